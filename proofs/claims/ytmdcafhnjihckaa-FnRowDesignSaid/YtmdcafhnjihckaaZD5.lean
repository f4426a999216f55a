/- Helpers of the laws that draw. No conditions. -/
import Derived.Test.YtmdcafhnjihckaaZD0
import Derived.Test.YtmdcafhnjihckaaZD1
import Derived.Test.YtmdcafhnjihckaaZD2
import Derived.Test.YtmdcafhnjihckaaZD3
import Derived.Test.YtmdcafhnjihckaaZD4
import Derived.Test.YtmdcafhnjihckaaRows
import Derived.WalkKit
import Derived.ProofKit
import Derived.OpenShut
import Derived.Carry
import Derived.Deep.Slices
/- The frame of a law with one slice as its argument: from what its run comes to to the given statement. Conditions: those that each theorem names. -/
namespace Go.Proofs.Ytmdcafhnjihckaa
open Go.ChangeShapes Go.WideShapes Go.ChangeAt Go.RowKit Go.Deep

theorem own : ownKnob Try.prog.godebug = none := by kernel_rfl
theorem laidOut : laidOutB Try.prog = true := by kernel_rfl

/-- The law is true. -/
def SaysYes : Ex → List AV → List AB → Prop := fun _ l _ => l = [.v (.bool true)]

section
variable {H : Type} {enc : TypeId × Value → H} {P : Program}
/-- The row's last step, where it is known that below the heap's old size nothing has turned. -/
theorem post_below {f : Func} {s : ChangeSpec} {apart fresh handsOn again : Bool} {W W' : World} {args : Array Value} {v : Value} {ds gs : List (DataW H)} {before pa pv : List MemPlace}
    (hW : DataW.Whole enc P f.params.toList s.vars apart W args.toList ds gs before)
    (hres : ∀ (b : Nat) (sp : Nat → Bool) (hd : Bool), DataW.TrodAll enc P W' b sp hd f.resultTypes.toList (v.resultList f.resultTypes.size) (s.fn H (ds ++ gs)).results [])
    (hargs : ∀ sp : Nat → Bool, (∀ p ∈ before, sp p.block = true) → DataW.TrodAll enc P W' 0 sp true f.params.toList args.toList (s.fn H (ds ++ gs)).args pa)
    (hvars : ∀ sp : Nat → Bool, (∀ p ∈ before, sp p.block = true) → DataW.TrodVars enc P W' sp s.vars (s.fn H (ds ++ gs)).vars pv)
    (hps : before = pa ++ pv) (hb : Below W.heap.size W W')
    (hok : ∀ (j : Nat) (t : TypeId) (r : Value), f.resultTypes[j]? = some t → (v.resultList f.resultTypes.size)[j]? = some r → Value.okWide P W' .any 0 t r) :
    s.post enc P f apart fresh handsOn again W args v W' := by
  have hlt : ∀ p ∈ before, p.block < W.heap.size := fun p hp => hW.lt p hp
  have hold : ∀ p ∈ before, (fun b => decide (b < W.heap.size)) p.block = true := fun p hp => by simpa using hlt p hp
  refine ⟨ds, gs, before, [], pa, pv, hW, hres _ _ _, hargs _ hold, hvars _ hold, World.keptBut_mono (fun p hp => ⟨hp, ?_⟩) (hb.frame (· ∈ before)), fun _ => ?_⟩
  · rw [hps, List.mem_append] at hp
    exact Or.inr hp
  · obtain ⟨_, _, _, _, _, hz, hn⟩ := hW
    refine ⟨hok, _, _, ([] ++ pa) ++ pv, ⟨[] ++ pa, pv, trodAll_append (hargs _ (fun _ _ => rfl)) (hres _ _ _), hvars _ (fun _ _ => rfl), rfl, ?_, ?_⟩, ?_⟩
    · intro b off hp
      have hin : MemPlace.cell b off ∈ before := by rw [hps]; simpa using hp
      rw [hb.frozen (hlt _ hin)]
      exact hz b off hin
    · intro ha
      have := hn ha
      rw [hps] at this
      simpa using this
    · intro p hp _
      rw [hps]
      simpa using hp

/-- A slice that came in, as the machine sees it. -/
theorem arg_row {W : World} {base s : Nat} {t e : TypeId} {v : Value} {d : DataW H} {p : List MemPlace} (ht : P.underlying t = some (.slice e)) (hc : P.cellsOf e = s) (hs : 0 < s) (hv : Value.okWide P W .any base t v)
    (h : DataW.Trod enc P W 0 (fun _ => true) true t v d p) (row : (Nat → Int) → List Value) (ok : (Nat → Int) → Prop) (hrow : ∀ f, (row f).length = s ∧ ∀ x ∈ row f, x.oneCell' = true)
    (he : ∀ n cs x, cs.length = s → DataW.trod enc P W 0 (fun _ => true) true n e cs = some x → ∃ f, ok f ∧ cs = row f) (tt : TypeId) :
    ∃ (m : Nat) (ν : Nu) (g : Nat → Nat → Int), m ≤ 9223372036854775807 ∧ (∀ j, j < m → ok (g j)) ∧ VR ν (.sl 0 s 0 0 m none) v ∧ RH (fun k => W.heap.size ≤ k) ν (fun b => ([AB.row false m s (fun j => row (g j)) tt] : List AB).getD b .gone) W ∧ ∀ i b, ν i = some b → i < 1 := by
  obtain ⟨pt, len, cap, rfl⟩ := okWide_slice ht hv
  obtain ⟨fuel, hf⟩ := h
  have empty : ∀ c, VR (fun _ => none) (.sl 0 s 0 0 0 none) (.slice pt 0 c) → ∃ (m : Nat) (ν : Nu) (g : Nat → Nat → Int), m ≤ 9223372036854775807 ∧ (∀ j, j < m → ok (g j)) ∧ VR ν (.sl 0 s 0 0 m none) (.slice pt 0 c) ∧ RH (fun k => W.heap.size ≤ k) ν (fun b => ([AB.row false m s (fun j => row (g j)) tt] : List AB).getD b .gone) W ∧ ∀ i b, ν i = some b → i < 1 := by
    intro c hvr
    refine ⟨0, fun _ => none, fun _ _ => 0, by omega, fun j hj => by omega, hvr, ⟨fun i => ?_, fun i j b b' _ _ _ h => by simp at h, fun i b _ h => by simp at h, fun i b h => by simp at h⟩, fun i b h => by simp at h⟩
    match i with
    | 0 => exact .inl ⟨rfl, rfl, rfl⟩
    | n + 1 => trivial
  rcases open_slice ht hf with ⟨h0, _⟩ | ⟨a, len', cap', m, n, D, Pl, hcs, hb, hl, hm, hmm, hx, hi⟩
  · simp only [Value.cells] at h0
    simp at h0
    obtain ⟨rfl, rfl, rfl⟩ := h0
    exact empty 0 (by simp only [VR]; exact ⟨none, 0, rfl, by simp, Nat.le_refl _, by omega⟩)
  · simp only [Value.cells] at hcs
    simp at hcs
    obtain ⟨rfl, rfl, rfl⟩ := hcs
    simp only [if_true] at hmm
    subst hmm
    unfold maxLen at hm
    by_cases hz : m = 0
    · subst hz
      have : len = 0 := by omega
      subst this
      exact empty 0 (by simp only [VR]; exact ⟨some a, 0, rfl, by simp, Nat.le_refl _, by omega⟩)
    · have cells : ∀ i, ∃ f, i < m → ok f ∧ ∀ k, k < s → W.cell? ((a.add (i * s)).add k) = (row f)[k]? := by
        intro i
        by_cases him : i < m
        · obtain ⟨cs', h1, h2⟩ := hi i him
          rw [hc] at h1
          obtain ⟨_, h3, h4⟩ := World.cells?_some h1
          obtain ⟨f, h5, h6⟩ := he n cs' _ h3 h2
          exact ⟨f, fun _ => ⟨h5, fun k hk => by rw [h4 k hk, h6]⟩⟩
        · exact ⟨fun _ => 0, fun h => absurd h him⟩
      have get : ∀ i k, i < m → k < s → ∃ x, (row (Classical.choose (cells i)))[k]? = some x := fun i k _ hk => by
        have := (hrow (Classical.choose (cells i))).1
        exact ⟨_, List.getElem?_eq_getElem (by omega)⟩
      obtain ⟨x0, hx0⟩ := get 0 0 (by omega) hs
      have c0 := ((Classical.choose_spec (cells 0)) (by omega)).2 0 hs
      rw [hx0, Nat.zero_mul] at c0
      have hspot : a.spot = none := by
        have := World.cell?_spot c0
        simpa [Addr.add] using this
      obtain ⟨bl, off, sp⟩ := a
      simp only at hspot
      subst hspot
      have e0 : ((⟨bl, off, none⟩ : Addr).add 0).add 0 = ⟨bl, off, none⟩ := by simp [Addr.add]
      rw [e0] at c0
      obtain ⟨o, ho⟩ : ∃ o, W.heap[bl]? = some o := by
        unfold World.cell? at c0
        split at c0
        · exact ⟨_, by assumption⟩
        · cases c0
      obtain ⟨l, t', fz, rfl⟩ : ∃ l t' fz, o = .cells (List.toArray l) t' fz := by
        unfold World.cell? at c0
        simp only [ho] at c0
        cases o with
        | cells c t' fz => exact ⟨c.toList, t', fz, by simp⟩
        | _ => cases c0
      refine ⟨len, fun i => if i = 0 then some ⟨bl, off, m⟩ else none, fun i => Classical.choose (cells i), by omega, fun j hj => ((Classical.choose_spec (cells j)) (by omega)).1, ?_, ⟨fun i => ?_, fun i j b b' hij hw _ h1 h2 => ?_, fun i b hw h1 => ?_, fun i b h1 => ?_⟩, fun i b h1 => ?_⟩
      · simp only [VR]
        exact ⟨_, m, rfl, by simp, hl, fun _ => ⟨_, rfl, by simp⟩⟩
      · match i with
        | 0 =>
          refine .inr ⟨⟨bl, off, m⟩, l, t', fz, rfl, ho, fun h => by simp at h, hl, fun j hj => ⟨hrow _, fun k hk => ?_⟩⟩
          have := ((Classical.choose_spec (cells j)) (by omega)).2 k hk
          rw [← this]
          have e1 : ((⟨bl, off, none⟩ : Addr).add (j * s)).add k = ⟨bl, off + (j * s + k), none⟩ := by
            rw [addr_add, addr_add, Nat.add_assoc]
          rw [e1, cell_at ho]
        | n + 1 => trivial
      · match i with
        | 0 => simp [AB.wr] at hw
        | n + 1 => simp at h1
      · match i with
        | 0 => simp [AB.wr] at hw
        | n + 1 => simp at h1
      · match i with
        | 0 =>
          simp at h1
          subst h1
          exact (Array.getElem?_eq_some_iff.1 ho).1
        | n + 1 => simp at h1
      · match i with
        | 0 => omega
        | n + 1 => simp at h1
end

/-- What a law's run comes to. -/
theorem yes_calls {Γ : Gam} (hΓ : GamOk Try.prog Γ) {Λ : Nat → Option Sum} {n : Nat} {f : FuncId} {fn : Func} {avs : List AV} {H : List AB} {ν : Nu} {vals : List Value} {w : World} (hf : Try.prog.funcs[f]? = some fn)
    (hL : ∀ c, fn.body = some c → LamOk Try.prog H.length Λ c) (h : GoodQ (execF Try.prog Γ Λ n fn avs H (packK H.length)) SaysYes) (hv : VRs ν avs vals) (hH : RH (fun k => w.heap.size ≤ k) ν (fun b => H.getD b .gone) w) (hdom : ∀ i b, ν i = some b → i < H.length) :
    Calls Try.prog f vals.toArray w fun e w' => e = .returned (.bool true) ∧ Below w.heap.size w w' := by
  refine (calls_pack hΓ mixed enters hf hL (fun k hk => hk) h.out hv hH hdom).mono ?_
  rintro e w' ⟨v, av, H', ν', rfl, hq, hvr, _, hfr, _⟩
  have : [av] = [AV.v (.bool true)] := hq
  simp only [List.cons.injEq, and_true] at this
  subst this
  simp only [VR] at hvr
  subst hvr
  exact ⟨rfl, ⟨hfr.os, hfr.tape, hfr.output, hfr.size, fun k hk => hfr.block k hk (by omega)⟩⟩

/-- The words of a row of points, or of bytes. -/
def okI (f : Nat → Int) : Prop := ∀ k, -9223372036854775808 ≤ f k ∧ f k ≤ 9223372036854775807

end Go.Proofs.Ytmdcafhnjihckaa

/- A word for a callee that hands back a new list or none: read as one. Conditions: those of its two cases. -/
namespace Go.Proofs.Ytmdcafhnjihckaa
open Go.RowKit
set_option maxRecDepth 100000

theorem putC_nil : ∀ (is : List (Option Nat)) (bs : List AB), (∀ b ∈ bs, b.wr = false) → putC is bs = []
  | [], [], _ => rfl
  | [], _ :: _, _ => by simp [putC]
  | i :: is, [], _ => by cases i <;> simp [putC]
  | none :: is, b :: bs, h => by
    simp only [putC]
    exact putC_nil is bs fun x hx => h x (by simp [hx])
  | some i :: is, b :: bs, h => by
    have ih := putC_nil is bs fun x hx => h x (by simp [hx])
    have hb := h b (by simp)
    cases b with
    | row rw n s g t =>
      cases rw with
      | true => cases hb
      | false => simp only [putC]; exact ih
    | cells cs t => cases hb
    | gone => simp only [putC]; exact ih
theorem abP_rd : ∀ {mds : List Md} {sas : List SA} {ps : List (Nat → List Value)}, hasWr mds = false → ∀ b ∈ abP mds sas ps, b.wr = false
  | [], [], ps, _, b, hb => by simp [abP] at hb
  | .val :: ds, .v x :: r, ps, h, b, hb => abP_rd (mds := ds) (sas := r) (ps := ps) h b (by simpa only [abP] using hb)
  | .rd s t :: ds, .row m g :: r, ps, h, b, hb => by
    simp only [abP, List.mem_cons] at hb
    rcases hb with rfl | hb
    · rfl
    · exact abP_rd (mds := ds) (sas := r) (ps := ps) h b hb
  | .wr s t :: ds, _, ps, h, b, hb => by cases h
  | [], _ :: _, ps, _, b, hb => by simp [abP] at hb
  | .val :: ds, [], ps, _, b, hb => by simp [abP] at hb
  | .val :: ds, .row .. :: _, ps, _, b, hb => by simp [abP] at hb
  | .val :: ds, .own .. :: _, ps, _, b, hb => by simp [abP] at hb
  | .rd .. :: ds, [], ps, _, b, hb => by simp [abP] at hb
  | .rd .. :: ds, .v _ :: _, ps, _, b, hb => by simp [abP] at hb
  | .rd .. :: ds, .own .. :: _, ps, _, b, hb => by simp [abP] at hb

/-- The list, or none. -/
structure UR where
  b : Bool
  T : List Wh
  obl : List Bool
def specU (mds : List Md) (U : List SA → Option UR) : Spec := fun avs H base =>
  match saAll H mds avs with
  | some xs => match U (xs.map (·.sa)) with
    | some u => some { val := .tup [.sl base 9 0 0 u.T.length (some u.T.length), .v (.bool u.b)], rd := (ixC mds xs).filterMap id, put := [], new := [.row false u.T.length 9 (row9 (wfun u.T)) 46], obl := xs.flatMap (·.ob) ++ u.obl }
    | none => none
  | none => none

theorem specU_ok {P : Program} {f : FuncId} {mds : List Md} {FY FN : List SA → Option FR} {U : List SA → Option UR} (hw : hasWr mds = false) (hY : SpecOk P f (specR mds FY)) (hN : SpecOk P f (specR mds FN))
    (h : ∀ sas u, U sas = some u → obls u.obl = true → Nat.beq (abP mds sas []).length (abC mds sas).length = true ∧ ((u.b = true ∧ ∃ ob, FY sas = some { val := valY u.T, new := newY u.T, obl := ob } ∧ obls ob = true) ∨ (u.b = false ∧ u.T = [] ∧ ∃ ob, FN sas = some { val := valN, obl := ob } ∧ obls ob = true))) : SpecOk P f (specU mds U) := by
  refine ⟨hY.1, fun avs H base δ ν vals w hS ho hv hr hlt hfree hsep => ?_⟩
  unfold specU at hS
  split at hS
  case h_2 => cases hS
  rename_i xs hxs
  split at hS
  case h_2 => cases hS
  rename_i u hu
  simp only [Option.some.injEq] at hS
  subst hS
  have ho' : obls (xs.flatMap (·.ob)) = true ∧ obls u.obl = true := by simpa [obls, List.all_append] using ho
  obtain ⟨hl, hc⟩ := h _ _ hu ho'.2
  have hput : putC (ixC mds xs) (abP mds (xs.map (·.sa)) []) = [] := putC_nil _ _ fun b hb => abP_rd hw b hb
  rcases hc with ⟨hb, ob, e1, e2⟩ | ⟨hb, hT, ob, e1, e2⟩
  · have hS2 : specR mds FY avs H base = some { val := .tup [.sl base 9 0 0 u.T.length (some u.T.length), .v (.bool true)], rd := (ixC mds xs).filterMap id, put := [], new := newY u.T, obl := xs.flatMap (·.ob) ++ ob } := by
      unfold specR
      rw [hxs]
      simp only [e1]
      show cond _ _ _ = _
      rw [hw, hl, hput]
      rfl
    refine (hY.2 avs H base _ ν vals w hS2 (by simpa [obls, List.all_append] using And.intro ho'.1 e2) hv hr hlt hfree (fun i o j b b' hp => by cases hp)).mono ?_
    rintro e w' ⟨v, ν', rfl, d⟩
    refine ⟨v, ν', rfl, d.le, d.dom, by rw [hb]; exact d.val, fun i b hl => (by cases hl), fun j b hj => ?_, d.os, d.tape, d.output, d.size, d.block, d.fresh, d.apart⟩
    match j with
    | 0 =>
      simp only [List.getElem?_cons_zero, Option.some.injEq] at hj
      subst hj
      have := d.new 0 _ rfl
      rcases this with ⟨h1, _, _⟩ | ⟨k, l, t', fz, h1, h2, _, h4, h5⟩
      · cases h1
      · exact .inr ⟨k, l, t', fz, h1, h2, fun h => (by cases h), h4, h5⟩
    | j + 1 => simp at hj
  · have hS2 : specR mds FN avs H base = some { val := valN, rd := (ixC mds xs).filterMap id, put := [], new := [], obl := xs.flatMap (·.ob) ++ ob } := by
      unfold specR
      rw [hxs]
      simp only [e1]
      show cond _ _ _ = _
      rw [hw, hl, hput]
      rfl
    refine (hN.2 avs H base _ ν vals w hS2 (by simpa [obls, List.all_append] using And.intro ho'.1 e2) hv hr hlt (fun j hj => absurd hj (Nat.not_lt_zero _)) (fun i o j b b' hp => by cases hp)).mono ?_
    rintro e w' ⟨v, ν', rfl, d⟩
    have hnone : ν' base = none := by
      have h0 : ν base = none := hfree 0 (Nat.zero_lt_one)
      cases hq : ν' base with
      | none => rfl
      | some b =>
        have := d.dom base h0 (by rw [hq]; simp)
        simp at this
    have hv0 : VR ν' (.tup [.sl base 9 0 0 0 (some 0), .v (.bool false)]) v := by
      have := d.val
      simp only [VR] at this ⊢
      obtain ⟨l, e1, e2⟩ := this
      match l, e2 with
      | [a, b], ⟨ha, hbb, _⟩ => exact ⟨[a, b], e1, ⟨none, 0, ha, fun c' hc' => by simpa using hc', Nat.le_refl _, fun hc => absurd hc (Nat.lt_irrefl 0)⟩, hbb, trivial⟩
    refine ⟨v, ν', rfl, d.le, fun i h1 h2 => ?_, by rw [hb, hT]; exact hv0, fun i b hl => (by cases hl), fun j b hj => ?_, d.os, d.tape, d.output, d.size, d.block, fun j b hj hq => ?_, fun j j' b b' hne hj hj' => ?_⟩
    · have := d.dom i h1 h2
      simp at this
      omega
    · match j with
      | 0 =>
        simp only [List.getElem?_cons_zero, Option.some.injEq] at hj
        subst hj
        rw [hT]
        exact .inl ⟨rfl, rfl, hnone⟩
      | j + 1 => simp at hj
    · have hj : j < 1 := hj
      have : j = 0 := by omega
      subst this
      rw [Nat.add_zero, hnone] at hq
      cases hq
    · have hj : j < 1 := hj
      have hj' : j' < 1 := hj'
      omega

end Go.Proofs.Ytmdcafhnjihckaa

/- The abstract machine, 27: words for callees by their view, which may hand back what points to rows that are only read. Conditions: those of the table of callees. -/
namespace Go.Proofs.Ytmdcafhnjihckaa
open Go.RowKit

/-- The numbers on the way back: what the callee may write, and what is new. -/
def bkK (keep : List Nat) (Hc : List AB) (base : Nat) : Nat → Option Nat := fun i => bif Nat.blt i keep.length then (bif (Hc.getD i .gone).live then keep[i]? else none) else some (base + (i - keep.length))

/-- Rows that are read: they must hold something, so that they have a place. -/
def fullB : List AB → List Bool
  | [] => []
  | .row false n _ _ _ :: l => decide (0 < n) :: fullB l
  | _ :: l => fullB l
theorem fullB_get : ∀ {H : List AB} {j n w : Nat} {g : Nat → List Value} {t : TypeId}, obls (fullB H) = true → H.getD j .gone = .row false n w g t → 0 < n
  | [], j, n, w, g, t, _, h => by simp at h
  | b :: H, 0, n, w, g, t, ho, h => by
    simp only [List.getD_cons_zero] at h
    subst h
    simp only [fullB, ob_cons, decide_eq_true_eq] at ho
    exact ho.1
  | b :: H, j + 1, n, w, g, t, ho, h => by
    simp only [List.getD_cons_succ] at h
    refine fullB_get (H := H) (j := j) ?_ h
    unfold fullB at ho
    split at ho
    · rename_i e; cases e
    · rename_i e; cases e; exact (ob_cons.1 ho).2
    · rename_i e; cases e; exact ho
theorem obls_app {a b : List Bool} : obls (a ++ b) = true ↔ obls a = true ∧ obls b = true := by
  simp [obls]

/-- A callee's word, by its view; it may hand back what points to rows that are only read. -/
def specK (ros : List Bool) (F : List AV → List AB → Option HR) : Spec := fun avs H base =>
  match viewH ros avs H with
  | some q => match F q.2.1 q.2.2 with
    | some hr => match mapA (bkK q.1 q.2.2 base) hr.val, mapBs (bkK q.1 q.2.2 base) hr.out, mapBs (bkK q.1 q.2.2 base) hr.new with
      | some v, some ou, some nw => cond (Nat.beq hr.out.length q.2.2.length && hr.new.all AB.wr)
          (some { val := v, rd := q.1, put := putH q.1 q.2.2 ou, new := nw, obl := hr.obl ++ fullB q.2.2 }) none
      | _, _, _ => none
    | none => none
  | none => none

theorem specK_wk {f : FuncId} {fn : Func} {ros : List Bool} {F : List AV → List AB → Option HR} (hf : Try.prog.funcs[f]? = some fn) (hb : fn.body.isSome = true)
    (h : ∀ avs H hr, F avs H = some hr → obls hr.obl = true → ∃ (Γ : Gam) (H0 : List AB) (Λ : Nat → Option Sum) (n : Nat), GamOk Try.prog Γ ∧ Hsim H H0 ∧ (∀ c, fn.body = some c → LamOk Try.prog H0.length Λ c) ∧ GoodQ (execF Try.prog Γ Λ n fn avs H0 (packK H0.length)) (GivW hr)) : SpecOk Try.prog f (specK ros F) := by
  refine ⟨fun args w => enters f fn hf hb args w, fun avs H base δ ν vals w hS ho hv hbr hlt hfree hsep => ?_⟩
  unfold specK at hS
  split at hS
  case h_2 => cases hS
  rename_i q hq
  split at hS
  case h_2 => cases hS
  rename_i hr hF
  split at hS
  case h_2 => cases hS
  rename_i v ou nw hval hou hnw
  cases hck : (Nat.beq hr.out.length q.2.2.length && hr.new.all AB.wr) with
  | false => rw [hck] at hS; cases hS
  | true =>
  rw [hck] at hS
  simp only [cond_true, Option.some.injEq] at hS
  subst hS
  rw [Bool.and_eq_true] at hck
  have hlen := Nat.eq_of_beq_eq_true hck.1
  have hnewwr := List.all_eq_true.1 hck.2
  unfold viewH at hq
  generalize reach H 400 [] (idxAs avs) = keep at *
  split at hq
  case h_2 => cases hq
  rename_i avs' H1 hra hrb
  cases hnd : nodupB keep with
  | false => rw [hnd] at hq; cases hq
  | true =>
  rw [hnd] at hq
  simp only [cond_true, Option.some.injEq] at hq
  subst hq
  simp only at hval hou hnw hF hlen hbr hsep ho hfree ⊢
  rw [obls_app] at ho
  obtain ⟨ho, hof⟩ := ho
  obtain ⟨hl1, hg1⟩ := renBs_get hrb
  have hlHc : (roL ros H1).length = keep.length := by rw [roL_length, hl1]
  have nuAt : ∀ {j i}, keep[j]? = some i → keepNu keep ν j = ν i := fun hj => by simp [keepNu, hj]
  have ofNu : ∀ {j b}, keepNu keep ν j = some b → ∃ i, keep[j]? = some i ∧ ν i = some b := by
    intro j b hb
    unfold keepNu at hb
    split at hb
    · rename_i i hi; exact ⟨i, hi, hb⟩
    · cases hb
  have ren_marks : ∀ {b b' : AB}, renB keep b = some b' → b'.wr = b.wr ∧ b'.live = b.live := by
    intro b b' hb
    cases b with
    | cells cs t => simp only [renB, Option.map_eq_some_iff] at hb; obtain ⟨q, _, rfl⟩ := hb; exact ⟨rfl, rfl⟩
    | row => simp only [renB, Option.some.injEq] at hb; subst hb; exact ⟨rfl, rfl⟩
    | gone => simp only [renB, Option.some.injEq] at hb; subst hb; exact ⟨rfl, rfl⟩
  -- the callee's block j is the caller's block keep j
  have view : ∀ {j i}, keep[j]? = some i → ∃ b1, H1[j]? = some b1 ∧ renB keep (H.getD i .gone) = some b1 ∧ (roL ros H1)[j]? = some (roB (ros.getD j false) b1) := by
    intro j i hj
    obtain ⟨b1, e1, e2⟩ := hg1 j i hj
    exact ⟨b1, e1, e2, by rw [roL_get, e1]; rfl⟩
  have wrOf : ∀ {j i}, keep[j]? = some i → ((roL ros H1).getD j .gone).wr = true → (H.getD i .gone).wr = true := by
    intro j i hj hw
    obtain ⟨b1, _, e2, e3⟩ := view hj
    have : (roL ros H1).getD j .gone = roB (ros.getD j false) b1 := by simp [List.getD_eq_getElem?_getD, e3]
    rw [this] at hw
    rw [← (ren_marks e2).1]
    exact roB_wr hw
  have liveOf : ∀ {j i}, keep[j]? = some i → ((roL ros H1).getD j .gone).live = true → (H.getD i .gone).live = true := by
    intro j i hj hw
    obtain ⟨b1, _, e2, e3⟩ := view hj
    have : (roL ros H1).getD j .gone = roB (ros.getD j false) b1 := by simp [List.getD_eq_getElem?_getD, e3]
    rw [this, roB_live] at hw
    rw [← (ren_marks e2).2]
    exact hw
  obtain ⟨hlo, hgo⟩ := mapBs_get hou
  obtain ⟨hln, hgn⟩ := mapBs_get hnw
  have inPut : ∀ {j i}, keep[j]? = some i → ((roL ros H1).getD j .gone).wr = true → ∃ o o', hr.out[j]? = some o ∧ ou[j]? = some o' ∧ mapB (bkK keep (roL ros H1) base) o = some o' ∧ (i, o') ∈ putH keep (roL ros H1) ou := by
    intro j i hj hw
    have hjl : j < keep.length := (List.getElem?_eq_some_iff.1 hj).1
    have ho : hr.out[j]? = some (hr.out[j]'(by omega)) := List.getElem?_eq_getElem _
    obtain ⟨o', e1, e2⟩ := hgo j _ ho
    have hh : (roL ros H1)[j]? = some ((roL ros H1)[j]'(by omega)) := List.getElem?_eq_getElem _
    refine ⟨_, o', ho, e1, e2, putH_of hj hh e1 ?_⟩
    have : (roL ros H1).getD j .gone = (roL ros H1)[j]'(by omega) := by simp [List.getD_eq_getElem?_getD, hh]
    rw [← this]; exact hw
  let M : Nat → Prop := fun k => w.heap.size ≤ k ∨ ∃ j b, ((roL ros H1).getD j .gone).wr = true ∧ keepNu keep ν j = some b ∧ b.n = k
  have hRH : RH M (keepNu keep ν) (fun b => (roL ros H1).getD b .gone) w := by
    refine ⟨fun j => ?_, fun i j b b' hne hw hlv hb hb' => ?_, fun i b hw hb => .inr ⟨i, b, hw, hb, rfl⟩, fun i b hb => ?_⟩
    · cases hj : keep[j]? with
      | none =>
        have : (roL ros H1).getD j .gone = .gone := by
          rw [List.getD_eq_getElem?_getD, List.getElem?_eq_none]
          · rfl
          · rw [hlHc]
            exact List.getElem?_eq_none_iff.1 hj
        simp only [this]
        trivial
      | some i =>
        obtain ⟨b1, e1, e2, e3⟩ := view hj
        have : (roL ros H1).getD j .gone = roB (ros.getD j false) b1 := by simp [List.getD_eq_getElem?_getD, e3]
        simp only [this]
        refine roB_br ?_
        have hbi := hbr i (List.mem_of_getElem? hj)
        have hν := nuAt hj
        cases hi : H.getD i .gone with
        | cells cs t =>
          rw [hi] at e2 hbi
          simp only [renB, Option.map_eq_some_iff] at e2
          obtain ⟨cs', h1, h2⟩ := e2
          rw [← h2]
          obtain ⟨b, l, g1, g2, g3, g4⟩ := hbi
          exact ⟨b, l, by rw [hν]; exact g1, g2, g3, g4.ren h1⟩
        | row rw' n wd g t =>
          rw [hi] at e2 hbi
          simp only [renB, Option.some.injEq] at e2
          rw [← e2]
          rcases hbi with ⟨g1, g2, g3⟩ | ⟨b, l, t', fz, g1, g2⟩
          · exact .inl ⟨g1, g2, by rw [hν]; exact g3⟩
          · exact .inr ⟨b, l, t', fz, by rw [hν]; exact g1, g2⟩
        | gone =>
          rw [hi] at e2
          simp only [renB, Option.some.injEq] at e2
          rw [← e2]
          trivial
    · obtain ⟨i', hi, e1⟩ := ofNu hb
      obtain ⟨j', hj, e2⟩ := ofNu hb'
      obtain ⟨_, o', _, _, _, hp⟩ := inPut hi hw
      refine hsep i' o' j' b b' hp (List.mem_of_getElem? hj) (fun e => ?_) (liveOf hj hlv) e1 e2
      subst e
      exact hne (nodupB_ne hnd i j i' hi hj)
    · obtain ⟨i', _, e1⟩ := ofNu hb
      exact hlt i' b e1
  obtain ⟨Γ, H0, Λ, n, hΓ, hsim, hL, hG⟩ := h avs' (roL ros H1) hr hF ho
  have hl0 : H0.length = keep.length := by rw [← hsim.length, hlHc]
  have hdom0 : ∀ i b, keepNu keep ν i = some b → i < H0.length := by
    intro i b hb
    obtain ⟨i', hi, _⟩ := ofNu hb
    rw [hl0]
    exact (List.getElem?_eq_some_iff.1 hi).1
  refine (calls_pack hΓ mixed enters hf hL (fun k hk => Or.inl hk) hG.out (hv.ren hra) (hRH.sim hsim) hdom0).mono ?_
  rintro e w' ⟨vv, av, He, ν', rfl, ⟨av2, hav, hwk, hHe⟩, hvr, hRH', hfr, hle, hdom'⟩
  simp only [List.cons.injEq, and_true] at hav
  subst hav
  have hvr := hwk _ _ _ _ hRH' hvr
  have hRH2 := hRH'.sim hHe
  have hHl : He.length = keep.length + hr.new.length := by rw [hHe.length, List.length_append, hlen, hlHc]
  -- a block that may be written has a place
  have wrNu : ∀ {j : Nat}, ((roL ros H1).getD j .gone).wr = true → ∃ b, keepNu keep ν j = some b := by
    intro j hw
    have : BR (keepNu keep ν) j ((roL ros H1).getD j .gone) w := hRH.br j
    cases hb : (roL ros H1).getD j .gone with
    | cells cs t => rw [hb] at this; obtain ⟨b, l, e1, _⟩ := this; exact ⟨b, e1⟩
    | row rw' n wd g t =>
      rw [hb] at this hw
      rcases this with ⟨e1, _⟩ | ⟨b, l, t', fz, e1, _⟩
      · simp only [AB.wr] at hw
        rw [e1] at hw
        cases hw
      · exact ⟨b, e1⟩
    | gone => rw [hb] at hw; cases hw
  have liveNu : ∀ {j : Nat}, ((roL ros H1).getD j .gone).live = true → ∃ b, keepNu keep ν j = some b := by
    intro j hw
    have : BR (keepNu keep ν) j ((roL ros H1).getD j .gone) w := hRH.br j
    cases hb : (roL ros H1).getD j .gone with
    | cells cs t => rw [hb] at this; obtain ⟨b, l, e1, _⟩ := this; exact ⟨b, e1⟩
    | row rw' n wd g t =>
      rw [hb] at this
      rcases this with ⟨e1, e2, _⟩ | ⟨b, l, t', fz, e1, _⟩
      · subst e1
        have := fullB_get hof hb
        omega
      · exact ⟨b, e1⟩
    | gone => rw [hb] at hw; cases hw
  let ν2 : Nu := fun i => match ν i with
    | some b => some b
    | none => if base ≤ i ∧ i < base + nw.length then ν' (keep.length + (i - base)) else none
  have n2old : ∀ {i b}, ν i = some b → ν2 i = some b := fun {i b} h => by simp only [ν2, h]
  have n2new : ∀ {j : Nat}, j < nw.length → ν2 (base + j) = ν' (keep.length + j) := fun {j} hj => by
    have h0 := hfree j hj
    have h1 : ν2 (base + j) = if base ≤ base + j ∧ base + j < base + nw.length then ν' (keep.length + (base + j - base)) else none := by
      show (match ν (base + j) with | some b => some b | none => if base ≤ base + j ∧ base + j < base + nw.length then ν' (keep.length + (base + j - base)) else none) = _
      rw [h0]
    rw [h1, if_pos ⟨by omega, by omega⟩, Nat.add_sub_cancel_left]
  have mp : ∀ i i' b, bkK keep (roL ros H1) base i = some i' → ν' i = some b → ν2 i' = some b := by
    intro i i' b h1 h2
    unfold bkK at h1
    cases hc : Nat.blt i keep.length with
    | true =>
      rw [hc, cond_true] at h1
      cases hw : ((roL ros H1).getD i .gone).live with
      | false => rw [hw] at h1; cases h1
      | true =>
        rw [hw, cond_true] at h1
        obtain ⟨b0, hb0⟩ := liveNu hw
        have := hle _ _ hb0
        rw [h2] at this
        cases this
        rw [nuAt h1] at hb0
        exact n2old hb0
    | false =>
      rw [hc, cond_false, Option.some.injEq] at h1
      subst h1
      have hge : ¬ i < keep.length := fun hl => by rw [← Nat.blt_eq] at hl; rw [hl] at hc; cases hc
      have hd := hdom' i b h2
      have e : i = keep.length + (i - keep.length) := by omega
      rw [n2new (by rw [hln]; omega), ← e]
      exact h2
  have outBR : ∀ {j : Nat} {o : AB}, hr.out[j]? = some o → BR ν' j o w' := by
    intro j o hj
    have := hRH2.br j
    have hjl : j < hr.out.length := (List.getElem?_eq_some_iff.1 hj).1
    simp only [List.getD_eq_getElem?_getD, List.getElem?_append_left hjl, hj, Option.getD_some] at this
    exact this
  have newAt : ∀ {j : Nat} {o : AB}, hr.new[j]? = some o → (hr.out ++ hr.new).getD (keep.length + j) .gone = o := by
    intro j o hj
    rw [List.getD_eq_getElem?_getD, List.getElem?_append_right (by omega)]
    have : keep.length + j - hr.out.length = j := by omega
    rw [this, hj]
    rfl
  refine ⟨vv, ν2, rfl, ⟨fun i b hb => n2old hb, fun i h1 h2 => ?_, hvr.map mp hval, fun i b hl => ?_, fun j b hj => ?_, hfr.os, hfr.tape, hfr.output, hfr.size, fun k hk hne => ?_, fun j b hj hb => ?_, fun j j' b b' hne hj hj' hb hb' => ?_⟩⟩
  · simp only [ν2, h1] at h2
    split at h2
    · assumption
    · exact (h2 rfl).elim
  · obtain ⟨j, hh, e1, e2, e3, e4⟩ := putH_mem (lookB_mem hl)
    have hw : ((roL ros H1).getD j .gone).wr = true := by simp only [List.getD_eq_getElem?_getD, e2, Option.getD_some]; exact e4
    obtain ⟨o, o', g1, g2, g3, _⟩ := inPut e1 hw
    rw [e3] at g2
    cases g2
    obtain ⟨b0, hb0⟩ := wrNu hw
    have e5 : ν2 i = ν' j := by
      rw [hle _ _ hb0]
      rw [nuAt e1] at hb0
      exact n2old hb0
    exact (outBR g1).map mp e5 g3
  · have hjl : j < nw.length := (List.getElem?_eq_some_iff.1 hj).1
    have hn : hr.new[j]? = some (hr.new[j]'(by omega)) := List.getElem?_eq_getElem _
    obtain ⟨b', e1, e2⟩ := hgn j _ hn
    rw [hj] at e1
    cases e1
    have : BR ν' (keep.length + j) ((hr.out ++ hr.new).getD (keep.length + j) .gone) w' := hRH2.br (keep.length + j)
    rw [newAt hn] at this
    exact this.map mp (n2new hjl) e2
  · refine hfr.block k hk fun hM => ?_
    rcases hM with hM | ⟨j, b, hw, hb, e⟩
    · omega
    · obtain ⟨i, hi, e1⟩ := ofNu hb
      obtain ⟨_, o', _, _, _, hp⟩ := inPut hi hw
      exact hne _ b hp e1 e
  · have hj : j < nw.length := hj
    rw [n2new hj] at hb
    refine ⟨hRH2.lt _ _ hb, ?_⟩
    have hn : hr.new[j]? = some (hr.new[j]'(by omega)) := List.getElem?_eq_getElem _
    have hwn : ((hr.out ++ hr.new).getD (keep.length + j) .gone).wr = true := by
      rw [newAt hn]
      exact hnewwr _ (List.mem_of_getElem? hn)
    rcases hRH2.own _ b hwn hb with hM | ⟨i, b0, hw, hb0, e⟩
    · exact .inl hM
    · right
      obtain ⟨i', hi, e1⟩ := ofNu hb0
      obtain ⟨o, o', g1, g2, g3, hp⟩ := inPut hi hw
      obtain ⟨o2, hl2⟩ := lookB_of hp
      refine ⟨i', b0, ?_, e1, e⟩
      have hil : i < keep.length := (List.getElem?_eq_some_iff.1 hi).1
      have hgone : o = .gone := by
        cases hlv : o.live with
        | false => cases o <;> first | rfl | cases hlv
        | true =>
          have e3 : (hr.out ++ hr.new).getD i .gone = o := by
            rw [List.getD_eq_getElem?_getD, List.getElem?_append_left (by omega), g1]
            rfl
          exact (hRH2.sep (keep.length + j) i b b0 (by omega) hwn (by rw [e3]; exact hlv) hb (hle _ _ hb0) e.symm).elim
      subst hgone
      have ho' := (mapB_marks g3).2.2 rfl
      subst ho'
      obtain ⟨j2, h2, f1, f2, f3, f4⟩ := putH_mem (lookB_mem hl2)
      have : j2 = i := nodupB_ne hnd j2 i i' f1 hi
      subst this
      rw [g2] at f3
      cases f3
      exact hl2
  · have hj : j < nw.length := hj
    have hj' : j' < nw.length := hj'
    rw [n2new hj] at hb
    rw [n2new hj'] at hb'
    have hn : hr.new[j]? = some (hr.new[j]'(by omega)) := List.getElem?_eq_getElem _
    have hn' : hr.new[j']? = some (hr.new[j']'(by omega)) := List.getElem?_eq_getElem _
    have w1 : ((hr.out ++ hr.new).getD (keep.length + j) .gone).wr = true := by
      rw [newAt hn]
      exact hnewwr _ (List.mem_of_getElem? hn)
    have w2 : ((hr.out ++ hr.new).getD (keep.length + j') .gone).live = true := by
      rw [newAt hn']
      have := hnewwr _ (List.mem_of_getElem? hn')
      revert this
      cases hr.new[j']'(by omega) <;> simp [AB.wr, AB.live]
    exact hRH2.sep (keep.length + j) (keep.length + j') b b' (by omega) w1 w2 hb hb'

theorem specK_okG {f : FuncId} {fn : Func} {ros : List Bool} {F : List AV → List AB → Option HR} (hf : Try.prog.funcs[f]? = some fn) (hb : fn.body.isSome = true)
    (h : ∀ avs H hr, F avs H = some hr → obls hr.obl = true → ∃ (Γ : Gam) (H0 : List AB) (Λ : Nat → Option Sum) (n : Nat), GamOk Try.prog Γ ∧ Hsim H H0 ∧ (∀ c, fn.body = some c → LamOk Try.prog H0.length Λ c) ∧ GoodQ (execF Try.prog Γ Λ n fn avs H0 (packK H0.length)) (GivH hr)) : SpecOk Try.prog f (specK ros F) :=
  specK_wk hf hb fun avs H hr hF ho => by
    obtain ⟨Γ, H0, Λ, n, h0, h1, h2, h3⟩ := h avs H hr hF ho
    exact ⟨Γ, H0, Λ, n, h0, h1, h2, ⟨res_mono (fun e l He ⟨h4, h5⟩ => ⟨_, h4, fun _ _ _ _ _ hv => hv, h5⟩) h3.out⟩⟩
theorem specK_ok {Γ : Gam} (hΓ : GamOk Try.prog Γ) {f : FuncId} {fn : Func} {ros : List Bool} {F : List AV → List AB → Option HR} (hf : Try.prog.funcs[f]? = some fn) (hb : fn.body.isSome = true)
    (h : ∀ avs H hr, F avs H = some hr → obls hr.obl = true → ∃ (H0 : List AB) (Λ : Nat → Option Sum) (n : Nat), Hsim H H0 ∧ (∀ c, fn.body = some c → LamOk Try.prog H0.length Λ c) ∧ GoodQ (execF Try.prog Γ Λ n fn avs H0 (packK H0.length)) (GivH hr)) : SpecOk Try.prog f (specK ros F) :=
  specK_okG hf hb fun avs H hr hF ho => let ⟨H0, Λ, n, h1, h2, h3⟩ := h avs H hr hF ho; ⟨Γ, H0, Λ, n, hΓ, h1, h2, h3⟩

end Go.Proofs.Ytmdcafhnjihckaa

/- A reader of bytes: pick, its tree. -/
namespace Go.Proofs.Ytmdcafhnjihckaa
open Go.RowKit
set_option maxRecDepth 100000

abbrev rowB (b : Nat → Int) : Nat → List Value := fun j => [.int .u8 (b j)]
abbrev hpRd (l : Nat) (c : Option Nat) (p : Int) (m : Nat) (b : Nat → Int) (tr tb : TypeId) : List AB := [.cells [.sl 1 1 0 0 l c, .v (i64 p)] tr, .row false m 1 (rowB b) tb]
theorem treePk (l : Nat) (c : Option Nat) (p : Int) (m : Nat) (b : Nat → Int) (tr tb : TypeId) (n : Int) : execF Try.prog g0 noLam 100 Try.f70 [.ptr 0 0 0 0, .v (i64 n)] (hpRd l c p m b tr tb) (packK 2)
    = bif decide (n < (1 : Int)) then Res.out Ex.ret [AV.v (Value.int IntKind.i64 (0 : Int))] [AB.cells [AV.sl (1 : Nat) (1 : Nat) (0 : Nat) (0 : Nat) l c, AV.v (Value.int IntKind.i64 (IntKind.wrap IntKind.i64 (p + (1 : Int))))] tr, AB.row false m (1 : Nat) (rowB b) tb] else bif (↑l : Int) == (0 : Int) then Res.out Ex.ret [AV.v (Value.int IntKind.i64 (0 : Int))] [AB.cells [AV.sl (1 : Nat) (1 : Nat) (0 : Nat) (0 : Nat) l c, AV.v (Value.int IntKind.i64 (IntKind.wrap IntKind.i64 (p + (1 : Int))))] tr, AB.row false m (1 : Nat) (rowB b) tb] else bif decide (IntKind.wrap IntKind.i64 (IntKind.wrap IntKind.i64 (p + (1 : Int)) - (1 : Int)) < (↑l : Int)) then needs [decide ((0 : Int) ≤ IntKind.wrap IntKind.i64 (IntKind.wrap IntKind.i64 (p + (1 : Int)) - (1 : Int))), decide (IntKind.wrap IntKind.i64 (IntKind.wrap IntKind.i64 (p + (1 : Int)) - (1 : Int)) < (↑l : Int)), decide ((0 : Nat) + Int.toNat (IntKind.wrap IntKind.i64 (IntKind.wrap IntKind.i64 (p + (1 : Int)) - (1 : Int))) < m), !decide (n = (0 : Int))] (Res.out Ex.ret [AV.v (Value.int IntKind.i64 (Int.tmod (IntKind.wrap IntKind.i64 (b ((0 : Nat) + Int.toNat (IntKind.wrap IntKind.i64 (IntKind.wrap IntKind.i64 (p + (1 : Int)) - (1 : Int)))))) n))] [AB.cells [AV.sl (1 : Nat) (1 : Nat) (0 : Nat) (0 : Nat) l c, AV.v (Value.int IntKind.i64 (IntKind.wrap IntKind.i64 (p + (1 : Int))))] tr, AB.row false m (1 : Nat) (rowB b) tb]) else needs [!decide ((↑l : Int) = (0 : Int)), decide ((0 : Int) ≤ Int.tmod (IntKind.wrap IntKind.i64 (IntKind.wrap IntKind.i64 (p + (1 : Int)) - (1 : Int))) (↑l : Int)), decide (Int.tmod (IntKind.wrap IntKind.i64 (IntKind.wrap IntKind.i64 (p + (1 : Int)) - (1 : Int))) (↑l : Int) < (↑l : Int)), decide ((0 : Nat) + Int.toNat (Int.tmod (IntKind.wrap IntKind.i64 (IntKind.wrap IntKind.i64 (p + (1 : Int)) - (1 : Int))) (↑l : Int)) < m), !decide ((↑l : Int) = (0 : Int)), decide ((0 : Int) ≤ Int.tmod (IntKind.wrap IntKind.i64 (IntKind.wrap IntKind.i64 (IntKind.wrap IntKind.i64 (IntKind.wrap IntKind.i64 (p + (1 : Int)) - (1 : Int)) * (7 : Int)) + (3 : Int))) (↑l : Int)), decide (Int.tmod (IntKind.wrap IntKind.i64 (IntKind.wrap IntKind.i64 (IntKind.wrap IntKind.i64 (IntKind.wrap IntKind.i64 (p + (1 : Int)) - (1 : Int)) * (7 : Int)) + (3 : Int))) (↑l : Int) < (↑l : Int)), decide ((0 : Nat) + Int.toNat (Int.tmod (IntKind.wrap IntKind.i64 (IntKind.wrap IntKind.i64 (IntKind.wrap IntKind.i64 (IntKind.wrap IntKind.i64 (p + (1 : Int)) - (1 : Int)) * (7 : Int)) + (3 : Int))) (↑l : Int)) < m), !decide ((↑l : Int) = (0 : Int)), !decide (n = (0 : Int))] (Res.out Ex.ret [AV.v (Value.int IntKind.i64 (Int.tmod (IntKind.wrap IntKind.i64 (↑(BitVec.toNat (BitVec.ofInt (64 : Nat) (IntKind.wrap IntKind.i64 (IntKind.wrap IntKind.i64 (IntKind.wrap IntKind.i64 (IntKind.wrap IntKind.i64 (IntKind.wrap IntKind.i64 (b ((0 : Nat) + Int.toNat (Int.tmod (IntKind.wrap IntKind.i64 (IntKind.wrap IntKind.i64 (p + (1 : Int)) - (1 : Int))) (↑l : Int)))) * (131 : Int)) + IntKind.wrap IntKind.i64 (IntKind.wrap IntKind.i64 (b ((0 : Nat) + Int.toNat (Int.tmod (IntKind.wrap IntKind.i64 (IntKind.wrap IntKind.i64 (IntKind.wrap IntKind.i64 (IntKind.wrap IntKind.i64 (p + (1 : Int)) - (1 : Int)) * (7 : Int)) + (3 : Int))) (↑l : Int)))) * (1117 : Int))) + IntKind.wrap IntKind.i64 (IntKind.wrap IntKind.i64 (IntKind.wrap IntKind.i64 (p + (1 : Int)) - (1 : Int)) * (29 : Int))) + IntKind.wrap IntKind.i64 (IntKind.wrap IntKind.i64 (Int.tdiv (IntKind.wrap IntKind.i64 (IntKind.wrap IntKind.i64 (p + (1 : Int)) - (1 : Int))) (↑l : Int)) * (53 : Int)))) ^^^ BitVec.ofInt (64 : Nat) (IntKind.wrap IntKind.i64 (Int.tdiv (IntKind.wrap IntKind.i64 (IntKind.wrap IntKind.i64 (IntKind.wrap IntKind.i64 (IntKind.wrap IntKind.i64 (IntKind.wrap IntKind.i64 (b ((0 : Nat) + Int.toNat (Int.tmod (IntKind.wrap IntKind.i64 (IntKind.wrap IntKind.i64 (p + (1 : Int)) - (1 : Int))) (↑l : Int)))) * (131 : Int)) + IntKind.wrap IntKind.i64 (IntKind.wrap IntKind.i64 (b ((0 : Nat) + Int.toNat (Int.tmod (IntKind.wrap IntKind.i64 (IntKind.wrap IntKind.i64 (IntKind.wrap IntKind.i64 (IntKind.wrap IntKind.i64 (p + (1 : Int)) - (1 : Int)) * (7 : Int)) + (3 : Int))) (↑l : Int)))) * (1117 : Int))) + IntKind.wrap IntKind.i64 (IntKind.wrap IntKind.i64 (IntKind.wrap IntKind.i64 (p + (1 : Int)) - (1 : Int)) * (29 : Int))) + IntKind.wrap IntKind.i64 (IntKind.wrap IntKind.i64 (Int.tdiv (IntKind.wrap IntKind.i64 (IntKind.wrap IntKind.i64 (p + (1 : Int)) - (1 : Int))) (↑l : Int)) * (53 : Int)))) (64 : Int))))) : Int)) n))] [AB.cells [AV.sl (1 : Nat) (1 : Nat) (0 : Nat) (0 : Nat) l c, AV.v (Value.int IntKind.i64 (IntKind.wrap IntKind.i64 (p + (1 : Int))))] tr, AB.row false m (1 : Nat) (rowB b) tb]) := by kernel_rfl

end Go.Proofs.Ytmdcafhnjihckaa

/- A reader of bytes: what pick returns. Conditions: bytes; the reader's place is at most 2^30. -/
namespace Go.Proofs.Ytmdcafhnjihckaa
open Go.RowKit
set_option maxRecDepth 100000

def isB : List Value → Bool
  | [.int .u8 x] => inR x 0 255
  | _ => false
def u8Of : Value → Int
  | .int .u8 x => x
  | _ => 0
def itB (g : Nat → List Value) : Nat → Int := fun j => u8Of ((g j).getD 0 undef)
def okB (m : Nat) (g : Nat → List Value) : Bool := (List.range m).all fun j => isB (g j)
theorem okB_get {m : Nat} {g : Nat → List Value} (h : okB m g = true) {j : Nat} (hj : j < m) : g j = rowB (itB g) j ∧ 0 ≤ itB g j ∧ itB g j ≤ 255 := by
  have h1 := List.all_eq_true.1 h j (by simpa using hj)
  unfold isB at h1
  unfold rowB itB
  split at h1
  · rename_i x e
    rw [e]
    have e2 : u8Of ([Value.int .u8 x].getD 0 undef) = x := rfl
    rw [e2]
    unfold inR at h1
    simp only [Bool.and_eq_true, decide_eq_true_eq] at h1
    exact ⟨rfl, h1.1, h1.2⟩
  · cases h1
theorem itB_row (b : Nat → Int) : itB (rowB b) = b := rfl

def pkX (l : Nat) (b : Nat → Int) (p : Int) : Int :=
  W (W (W (W (W (b (0 + (Int.tmod p l).toNat)) * 131) + W (W (b (0 + (Int.tmod (W (W (p * 7) + 3)) l).toNat)) * 1117)) + W (p * 29)) + W (W (Int.tdiv p l) * 53))
def pkY (x : Int) : Int := W ((BitVec.ofInt 64 x ^^^ BitVec.ofInt 64 (W (Int.tdiv x 64))).toNat)
def pkR (l : Nat) (b : Nat → Int) (p n : Int) : Int :=
  bif decide (n < 1) then 0 else bif (l : Int) == 0 then 0 else bif decide (p < l) then Int.tmod (W (b (0 + p.toNat))) n else Int.tmod (pkY (pkX l b p)) n
/-- What is picked: always in its bounds. -/
def pkV (l : Nat) (b : Nat → Int) (p n : Int) : Int := if 0 ≤ pkR l b p n ∧ pkR l b p n < n then pkR l b p n else 0
theorem pkV_nn (l : Nat) (b : Nat → Int) (p n : Int) : 0 ≤ pkV l b p n := by unfold pkV; split <;> omega
theorem pkV_lt (l : Nat) (b : Nat → Int) (p : Int) {n : Int} (h : 1 ≤ n) : pkV l b p n < n := by unfold pkV; split <;> omega
theorem pkY_nn {x : Int} (h0 : 0 ≤ x) (h1 : x < 2 ^ 62) : 0 ≤ pkY x := by
  unfold pkY
  have e : W (Int.tdiv x 64) = x / 64 := by
    rw [Int.tdiv_eq_ediv_of_nonneg h0]
    exact w64_in (by omega) (by omega)
  rw [e, BitVec.toNat_xor, BitVec.toNat_ofInt, BitVec.toNat_ofInt]
  have : (x % (2 ^ 64 : Nat)).toNat ^^^ (x / 64 % (2 ^ 64 : Nat)).toNat < 2 ^ 62 := Nat.xor_lt_two_pow (by omega) (by omega)
  rw [w64_in (by omega) (by omega)]
  omega
theorem tmod_in {x : Int} {l : Nat} (h : 0 ≤ x) (hl : l ≠ 0) : 0 ≤ Int.tmod x l ∧ Int.tmod x l < l := by
  have : (0 : Int) < l := by omega
  exact ⟨Int.tmod_nonneg _ h, Int.tmod_lt_of_pos _ this⟩
theorem pkX_in {l m : Nat} {b : Nat → Int} {p : Int} (hb : ∀ j, j < m → 0 ≤ b j ∧ b j ≤ 255) (hl : l ≤ m) (hl0 : l ≠ 0) (h0 : 0 ≤ p) (h1 : p ≤ 2 ^ 30) : 0 ≤ pkX l b p ∧ pkX l b p < 2 ^ 62 := by
  have a1 := tmod_in h0 hl0
  have e1 : W (W (p * 7) + 3) = p * 7 + 3 := by rw [w64_in (x := p * 7) (by omega) (by omega), w64_in (by omega) (by omega)]
  have a2 := tmod_in (x := p * 7 + 3) (by omega) hl0
  have b1 := hb (0 + (Int.tmod p l).toNat) (by omega)
  have b2 := hb (0 + (Int.tmod (p * 7 + 3) l).toNat) (by omega)
  have a3 : 0 ≤ Int.tdiv p l := Int.tdiv_nonneg h0 (by omega)
  have a4 : Int.tdiv p l ≤ p := by
    rw [Int.tdiv_eq_ediv_of_nonneg h0]
    exact Int.ediv_le_self _ h0
  unfold pkX
  rw [e1]
  generalize b (0 + (Int.tmod p l).toNat) = x1 at b1
  generalize b (0 + (Int.tmod (p * 7 + 3) l).toNat) = x2 at b2
  generalize Int.tdiv p l = x3 at a3 a4
  rw [w64_in (x := x1) (by omega) (by omega), w64_in (x := x2) (by omega) (by omega), w64_in (x := x3) (by omega) (by omega), w64_in (x := x1 * 131) (by omega) (by omega), w64_in (x := x2 * 1117) (by omega) (by omega), w64_in (x := x3 * 53) (by omega) (by omega), w64_in (x := p * 29) (by omega) (by omega), w64_in (x := x1 * 131 + x2 * 1117) (by omega) (by omega), w64_in (x := x1 * 131 + x2 * 1117 + p * 29) (by omega) (by omega), w64_in (by omega) (by omega)]
  omega
theorem pkV_eq {l m : Nat} {b : Nat → Int} {p n : Int} (hb : ∀ j, j < m → 0 ≤ b j ∧ b j ≤ 255) (hl : l ≤ m) (h0 : 0 ≤ p) (h1 : p ≤ 2 ^ 30) : pkV l b p n = pkR l b p n := by
  have : pkR l b p n = 0 ∨ 0 ≤ pkR l b p n ∧ pkR l b p n < n := by
    unfold pkR
    by_cases c1 : n < 1
    · rw [decide_eq_true c1]; exact .inl rfl
    · rw [decide_eq_false c1, cond_false]
      by_cases c2 : (l : Int) = 0
      · rw [beq_iff_eq.2 c2]; exact .inl rfl
      · rw [beq_eq_false_iff_ne.2 c2, cond_false]
        by_cases c3 : p < l
        · rw [decide_eq_true c3, cond_true]
          have b1 := hb (0 + p.toNat) (by omega)
          rw [w64_in (by omega) (by omega)]
          exact .inr ⟨Int.tmod_nonneg _ b1.1, Int.tmod_lt_of_pos _ (by omega)⟩
        · rw [decide_eq_false c3, cond_false]
          have := pkX_in hb hl (by omega) h0 h1
          exact .inr ⟨Int.tmod_nonneg _ (pkY_nn this.1 this.2), Int.tmod_lt_of_pos _ (by omega)⟩
  unfold pkV
  split
  · rfl
  · omega

theorem ABeq.trans' {a b c : AB} (h1 : ABeq a b) (h2 : ABeq b c) : ABeq a c := by
  cases a with
  | row rw n w g t =>
    obtain ⟨n', g', rfl, hn, hg⟩ := h1
    obtain ⟨n2, g2, rfl, hn2, hg2⟩ := h2
    exact ⟨n2, g2, rfl, Nat.le_trans hn2 hn, fun j hj => (hg j (by omega)).trans (hg2 j hj)⟩
  | cells => cases h1; exact h2
  | gone => cases h1; exact h2
def FpkO (pk : Nat → (Nat → Int) → Int → Int → Int) : List AV → List AB → Option HR
  | [.ptr 0 0 0 0, .v (.int .i64 n)], [.cells [.sl 1 1 0 0 l c, .v (.int .i64 p)] tr, .row false m 1 g tb] => some { val := .v (.int .i64 (pk l (itB g) p n)), out := [.cells [.sl 1 1 0 0 l c, .v (.int .i64 (p + 1))] tr, .row false m 1 g tb], obl := [okB m g, decide (l ≤ m), decide (0 ≤ p), decide (p ≤ 2 ^ 30)] }
  | _, _ => none
theorem pick_good {l m : Nat} {c : Option Nat} {p : Int} {b : Nat → Int} {tr tb : TypeId} (n : Int) (hb : ∀ j, j < m → 0 ≤ b j ∧ b j ≤ 255) (h2 : l ≤ m) (h3 : 0 ≤ p) (h4 : p ≤ 2 ^ 30) :
    GoodQ (execF Try.prog g0 noLam 100 Try.f70 [.ptr 0 0 0 0, .v (i64 n)] (hpRd l c p m b tr tb) (packK 2)) (fun _ vs He => vs = [.v (i64 (pkV l b p n))] ∧ Hsim He (hpRd l c (p + 1) m b tr tb)) := by
  have e0 : IntKind.wrap IntKind.i64 (p + 1) = p + 1 := wr_in (by omega)
  have e1 : IntKind.wrap IntKind.i64 (p + 1 - 1) = p := by rw [wr_in (by omega)]; omega
  rw [treePk]
  simp only [e0, e1]
  have hv := pkV_eq (n := n) hb h2 h3 h4
  have key : ∀ x, pkR l b p n = x → [AV.v (.int .i64 x)] = [AV.v (i64 (pkV l b p n))] ∧ Hsim (hpRd l c (p + 1) m b tr tb) (hpRd l c (p + 1) m b tr tb) := by
    intro x hx
    exact ⟨by rw [hv, hx], Hsim.refl _⟩
  by_cases c1 : n < 1
  · refine good_true (decide_eq_true c1) (good_out (key _ ?_))
    rw [pkR, decide_eq_true c1]; rfl
  · refine good_false (decide_eq_false c1) ?_
    by_cases c2 : (l : Int) = 0
    · refine good_true (beq_iff_eq.2 c2) (good_out (key _ ?_))
      rw [pkR, decide_eq_false c1, beq_iff_eq.2 c2]; rfl
    · refine good_false (beq_eq_false_iff_ne.2 c2) ?_
      by_cases c3 : p < l
      · refine good_true (decide_eq_true c3) (good_needs ?_ (good_out (key _ ?_)))
        · simp only [ob_cons, ob_nil, and_true, decide_eq_true_eq, Bool.not_eq_true', decide_eq_false_iff_not]
          omega
        · rw [pkR, decide_eq_false c1, beq_eq_false_iff_ne.2 c2, decide_eq_true c3]; rfl
      · have e2 : IntKind.wrap IntKind.i64 (IntKind.wrap IntKind.i64 (p * 7) + 3) = p * 7 + 3 := by rw [wr_in (x := p * 7) (by omega), wr_in (by omega)]
        have a1 := tmod_in h3 (l := l) (by omega)
        have a2 := tmod_in (x := p * 7 + 3) (by omega) (l := l) (by omega)
        refine good_false (decide_eq_false c3) (good_needs ?_ (good_out (key _ ?_)))
        · simp only [ob_cons, ob_nil, and_true, decide_eq_true_eq, Bool.not_eq_true', decide_eq_false_iff_not, e2]
          omega
        · rw [pkR, decide_eq_false c1, beq_eq_false_iff_ne.2 c2, decide_eq_false c3]; rfl
theorem rd_sim {l m : Nat} {c : Option Nat} {p : Int} {tr tb : TypeId} {g : Nat → List Value} (h : okB m g = true) : Hsim [.cells [.sl 1 1 0 0 l c, .v (.int .i64 p)] tr, .row false m 1 g tb] (hpRd l c p m (itB g) tr tb) := .cons (ABeq.refl _) (.cons (ABeq.row fun _ hj => (okB_get h hj).1) .nil)
theorem rd_sim' {l m : Nat} {c : Option Nat} {p : Int} {tr tb : TypeId} {g : Nat → List Value} (h : okB m g = true) : Hsim (hpRd l c p m (itB g) tr tb) [.cells [.sl 1 1 0 0 l c, .v (.int .i64 p)] tr, .row false m 1 g tb] := .cons (ABeq.refl _) (.cons (ABeq.row fun _ hj => (okB_get h hj).1.symm) .nil)
theorem Hsim.trans' : ∀ {H H' H'' : List AB}, Hsim H H' → Hsim H' H'' → Hsim H H''
  | _, _, _, .nil, .nil => .nil
  | _, _, _, .cons h1 t1, .cons h2 t2 => .cons (ABeq.trans' h1 h2) (Hsim.trans' t1 t2)
theorem ok_pick : SpecOk Try.prog 70 (specK [] (FpkO pkV)) := by
  refine specK_ok g0_ok Try.func70 rfl fun avs H hr hF ho => ?_
  unfold FpkO at hF
  split at hF
  · rename_i n l c p tr m g tb
    cases hF
    simp only [ob_cons, decide_eq_true_eq] at ho
    obtain ⟨h1, h2, h3, h4, _⟩ := ho
    refine ⟨hpRd l c p m (itB g) tr tb, noLam, 100, rd_sim h1, noLam' _, ⟨res_mono (fun e vs He hq => ?_) (pick_good n (fun j hj => (okB_get h1 hj).2) h2 h3 h4).out⟩⟩
    exact ⟨hq.1, hq.2.trans' (rd_sim' h1)⟩
  · cases hF

/-- pick, where what it picks of N is told. -/
def FpkJ (pk : Nat → (Nat → Int) → Int → Int → Int) (N q : Int) : List AV → List AB → Option HR
  | [.ptr 0 0 0 0, .v (.int .i64 n)], [.cells [.sl 1 1 0 0 l c, .v (.int .i64 p)] tr, .row false m 1 g tb] => some { val := .v (.int .i64 (bif n == N then q else pk l (itB g) p n)), out := [.cells [.sl 1 1 0 0 l c, .v (.int .i64 (p + 1))] tr, .row false m 1 g tb], obl := [okB m g, decide (l ≤ m), decide (0 ≤ p), decide (p ≤ 2 ^ 30), bif n == N then decide (pk l (itB g) p n = q) else true] }
  | _, _ => none
theorem ok_pickJ (N q : Int) : SpecOk Try.prog 70 (specK [] (FpkJ pkV N q)) := by
  refine specK_ok g0_ok Try.func70 rfl fun avs H hr hF ho => ?_
  unfold FpkJ at hF
  split at hF
  · rename_i n l c p tr m g tb
    cases hF
    simp only [ob_cons, decide_eq_true_eq] at ho
    obtain ⟨h1, h2, h3, h4, h5, _⟩ := ho
    refine ⟨hpRd l c p m (itB g) tr tb, noLam, 100, rd_sim h1, noLam' _, ⟨res_mono (fun e vs He hq => ?_) (pick_good n (fun j hj => (okB_get h1 hj).2) h2 h3 h4).out⟩⟩
    refine ⟨hq.1.trans ?_, hq.2.trans' (rd_sim' h1)⟩
    show [AV.v (i64 (pkV l (itB g) p n))] = [AV.v (.int .i64 (bif n == N then q else pkV l (itB g) p n))]
    cases hn : (n == N) with
    | false => rfl
    | true =>
      rw [hn, cond_true, decide_eq_true_eq] at h5
      rw [h5]; rfl
  · cases hF

end Go.Proofs.Ytmdcafhnjihckaa

/- The frame of a law over bytes. No conditions. -/
namespace Go.Proofs.Ytmdcafhnjihckaa
open Go.ChangeShapes Go.WideShapes Go.ChangeAt Go.RowKit Go.Deep
set_option maxRecDepth 100000

theorem okB_row {m : Nat} {b : Nat → Int} (h : ∀ j, j < m → 0 ≤ b j ∧ b j ≤ 255) : okB m (rowB b) = true := List.all_eq_true.2 fun j hj => by
  have := h j (by simpa using hj)
  show inR (b j) 0 255 = true
  exact inR_iff.2 this
section
variable {H : Type} {enc : TypeId × Value → H} {W : World}
theorem byte_elem (n : Nat) (cs : List Value) (x : DataW H × List MemPlace) (_ : cs.length = 1) (h : DataW.trod enc Try.prog W 0 (fun _ => true) true n 5 cs = some x) :
    ∃ f : Nat → Int, (0 ≤ f 0 ∧ f 0 ≤ 255) ∧ cs = [.int .u8 (f 0)] := by
  obtain ⟨k, e, _, hw⟩ := DataW.trod_int Try.underlying5 h
  unfold Lit.wf at hw
  rw [Bool.and_eq_true, decide_eq_true_eq, decide_eq_true_eq] at hw
  exact ⟨fun _ => k, hw, e⟩
end

/-- A law over bytes: what it comes to, whatever came in. -/
theorem contractB {f : FuncId} {fn : Func} {spec : ChangeSpec} (hf : Try.prog.funcs[f]? = some fn) (hp : fn.params = #[22]) (hr : fn.resultTypes = #[4]) (hvars : spec.vars = []) (hspec : ∀ (H : Type) (d : DataW H), spec.fn H [d] = { results := [.lit (.bool true)], args := [d] })
    (yes : ∀ (m : Nat) (b : Nat → Int), m ≤ 9223372036854775807 → okB m (rowB b) = true → ∃ Γ n Λ, GamOk Try.prog Γ ∧ (∀ cc, fn.body = some cc → LamOk Try.prog 1 Λ cc) ∧ GoodQ (execF Try.prog Γ Λ n fn [.sl 0 1 0 0 m none] [.row false m 1 (rowB b) 5] (packK 1)) SaysYes)
    (H : Type) (enc : TypeId × Value → H) (W : World) (base : Nat) (args : Array Value) (ds gs : List (DataW H)) (before : List MemPlace)
    (hval : ∀ (j : Nat) t v, fn.params[j]? = some t → args[j]? = some v → Value.okWide Try.prog W .any base t v)
    (hW : DataW.Whole enc Try.prog fn.params.toList spec.vars false W args.toList ds gs before) :
    Calls Try.prog f args W fun e W' => ∃ v, e = .returned v ∧ spec.post enc Try.prog fn false true false false W args v W' := by
  have hW' := hW
  obtain ⟨p, q, hA0, hV, rfl, hfz, hnd⟩ := hW
  have hA : DataW.TrodAll enc Try.prog W 0 (fun _ => true) true fn.params.toList args.toList ds p := hA0
  rw [hp] at hA hval
  rw [hvars] at hV
  obtain ⟨v0, vs0, d0, ds0, p0, q0, hargs, rfl, rfl, h0, r0⟩ := trodAll_cons hA
  obtain ⟨rfl, rfl, rfl⟩ := trodAll_nil r0
  obtain rfl : args = #[v0] := by cases args; simp_all
  obtain ⟨rfl, rfl⟩ := trodVars_none hV
  clear hA0 hA r0
  obtain ⟨m, ν, g, hm, hok, hvr, hRH, hdom⟩ := arg_row (H := H) Try.underlying22 (s := 1) (by kernel_rfl) Nat.one_pos (hval 0 22 v0 rfl rfl) h0 (fun f => [.int .u8 (f 0)]) (fun f => 0 ≤ f 0 ∧ f 0 ≤ 255) (fun f => ⟨rfl, by simp [Value.oneCell']⟩) byte_elem 5
  obtain ⟨Γ, n, Λ, hΓ, hΛ, hgood⟩ := yes m (fun j => g j 0) hm (okB_row hok)
  have hcall := yes_calls hΓ (n := n) (vals := [v0]) (w := W) hf (Λ := Λ) (H := [.row false m 1 (rowB fun j => g j 0) 5]) hΛ hgood (by simp only [VRs, and_true]; exact hvr) hRH hdom
  refine hcall.mono fun e W' ⟨he, hb⟩ => ?_
  subst he
  have hlt : ∀ x ∈ p0, x.block < W.heap.size := fun x hx => by simpa using hW'.lt x (by simpa using hx)
  refine ⟨_, rfl, post_below (pa := p0) (pv := []) hW' ?_ ?_ ?_ (by simp) hb ?_⟩
  · intro b sp hd
    rw [hr]
    simp only [List.append_nil, hspec]
    exact trodAll_cons_mk (shut_bool Try.underlying4 _) trodAll_mk0
  · intro sp hsp
    rw [hp]
    simp only [List.append_nil, hspec]
    refine trodAll_mk1 (WideElems.Trod_stays laidOut (by kernel_rfl) (of_decide_eq_true (by kernel_rfl)) h0 (fun x hx => hb.same (hlt x hx)) fun x hx => hsp x (by simpa using hx))
  · intro sp _
    rw [hvars]
    simp only [List.append_nil, hspec]
    rfl
  · exact ok_one hr rfl (okWide_bool_mk Try.underlying4 _)

end Go.Proofs.Ytmdcafhnjihckaa

/- l91Cyc: its trees. Conditions: those of pick. -/
namespace Go.Proofs.Ytmdcafhnjihckaa
open Go.RowKit
set_option maxRecDepth 100000

noncomputable abbrev fCy : Func := Try.f126
def gmPJ (pk : Nat → (Nat → Int) → Int → Int → Int) (N q : Int) : Gam := ext g0 70 (specK [] (FpkJ pk N q))
abbrev lvCy : Ex → List Nat := lv3 [0, 2, 3, 6, 7] [0, 2, 3] [2]
abbrev stCy (n : Int) (i : Nat) : List AV := [.ptr 0 0 0 0, .ptr 2 0 0 0, .ptr 3 0 0 0, .v (i64 n), .v (i64 i)]
abbrev hpCy (l : Nat) (c : Option Nat) (p : Int) (m : Nat) (b : Nat → Int) (tr tb : TypeId) (a : Nat → Int) : List AB := [.cells [.sl 1 1 0 0 l c, .v (i64 p)] tr, .row false m 1 (rowB b) tb, .cells (cyC fun _ => 0) 31, .cells (cyC a) 31]
noncomputable abbrev exCy (pk : Nat → (Nat → Int) → Int → Int → Int) (l : Nat) (c : Option Nat) (p : Int) (m : Nat) (b : Nat → Int) (tr tb : TypeId) (a : Nat → Int) (n : Int) (i : Nat) (q : Int) : Res := execC Try.prog (gmPJ pk 8 q) 100 noLam (loopAt 1 fCy) (mkT 0 57 ((lvCy .normal).zip (stCy n i))) (hpCy l c p m b tr tb a) (leafV 57 lvCy 2)
theorem rndCy0 (pk : Nat → (Nat → Int) → Int → Int → Int) (l : Nat) (c : Option Nat) (p : Int) (m : Nat) (b : Nat → Int) (tr tb : TypeId) (a : Nat → Int) (n : Int) (i : Nat) : exCy pk l c p m b tr tb a n i 0
    = bif decide ((↑i : Int) < n) then needs [okB m (rowB b), decide (l ≤ m), decide ((0 : Int) ≤ p), decide (p ≤ (1073741824 : Int)), decide (pk l (itB (rowB b)) p (8 : Int) = (0 : Int)), decide ((0 : Nat) < m), okB m (rowB b), decide (l ≤ m), decide ((0 : Int) ≤ p + (1 : Int)), decide (p + (1 : Int) ≤ (1073741824 : Int)), decide ((0 : Nat) < m)] (Res.out Ex.normal [AV.ptr (0 : Nat) (0 : Nat) (0 : Nat) (0 : Nat), AV.ptr (2 : Nat) (0 : Nat) (0 : Nat) (0 : Nat), AV.ptr (3 : Nat) (0 : Nat) (0 : Nat) (0 : Nat), AV.v (Value.int IntKind.i64 n), AV.v (Value.int IntKind.i64 (IntKind.wrap IntKind.i64 ((↑i : Int) + (1 : Int))))] [AB.cells [AV.sl (1 : Nat) (1 : Nat) (0 : Nat) (0 : Nat) l c, AV.v (Value.int IntKind.i64 (p + (1 : Int) + (1 : Int)))] tr, AB.row false m (1 : Nat) (rowB b) tb, AB.cells [AV.v (Value.int IntKind.i64 (0 : Int)), AV.v (Value.int IntKind.i64 (0 : Int)), AV.v (Value.int IntKind.i64 (0 : Int)), AV.v (Value.int IntKind.i64 (0 : Int)), AV.v (Value.int IntKind.i64 (0 : Int)), AV.v (Value.int IntKind.i64 (0 : Int)), AV.v (Value.int IntKind.i64 (0 : Int)), AV.v (Value.int IntKind.i64 (0 : Int))] (31 : TypeId), AB.cells [AV.v (Value.int IntKind.i64 (IntKind.wrap IntKind.i64 (pk l (itB (rowB b)) (p + (1 : Int)) (9 : Int) - (4 : Int)))), AV.v (Value.int IntKind.i64 (a (1 : Nat))), AV.v (Value.int IntKind.i64 (a (2 : Nat))), AV.v (Value.int IntKind.i64 (a (3 : Nat))), AV.v (Value.int IntKind.i64 (a (4 : Nat))), AV.v (Value.int IntKind.i64 (a (5 : Nat))), AV.v (Value.int IntKind.i64 (a (6 : Nat))), AV.v (Value.int IntKind.i64 (a (7 : Nat)))] (31 : TypeId)]) else Res.out (Ex.exit (1 : Nat)) [AV.ptr (0 : Nat) (0 : Nat) (0 : Nat) (0 : Nat), AV.ptr (2 : Nat) (0 : Nat) (0 : Nat) (0 : Nat), AV.ptr (3 : Nat) (0 : Nat) (0 : Nat) (0 : Nat)] [AB.cells [AV.sl (1 : Nat) (1 : Nat) (0 : Nat) (0 : Nat) l c, AV.v (Value.int IntKind.i64 p)] tr, AB.row false m (1 : Nat) (rowB b) tb, AB.cells [AV.v (Value.int IntKind.i64 (0 : Int)), AV.v (Value.int IntKind.i64 (0 : Int)), AV.v (Value.int IntKind.i64 (0 : Int)), AV.v (Value.int IntKind.i64 (0 : Int)), AV.v (Value.int IntKind.i64 (0 : Int)), AV.v (Value.int IntKind.i64 (0 : Int)), AV.v (Value.int IntKind.i64 (0 : Int)), AV.v (Value.int IntKind.i64 (0 : Int))] (31 : TypeId), AB.cells [AV.v (Value.int IntKind.i64 (a (0 : Nat))), AV.v (Value.int IntKind.i64 (a (1 : Nat))), AV.v (Value.int IntKind.i64 (a (2 : Nat))), AV.v (Value.int IntKind.i64 (a (3 : Nat))), AV.v (Value.int IntKind.i64 (a (4 : Nat))), AV.v (Value.int IntKind.i64 (a (5 : Nat))), AV.v (Value.int IntKind.i64 (a (6 : Nat))), AV.v (Value.int IntKind.i64 (a (7 : Nat)))] (31 : TypeId)] := by kernel_rfl

theorem rndCy1 (pk : Nat → (Nat → Int) → Int → Int → Int) (l : Nat) (c : Option Nat) (p : Int) (m : Nat) (b : Nat → Int) (tr tb : TypeId) (a : Nat → Int) (n : Int) (i : Nat) : exCy pk l c p m b tr tb a n i 1
    = bif decide ((↑i : Int) < n) then needs [okB m (rowB b), decide (l ≤ m), decide ((0 : Int) ≤ p), decide (p ≤ (1073741824 : Int)), decide (pk l (itB (rowB b)) p (8 : Int) = (1 : Int)), decide ((0 : Nat) < m), okB m (rowB b), decide (l ≤ m), decide ((0 : Int) ≤ p + (1 : Int)), decide (p + (1 : Int) ≤ (1073741824 : Int)), decide ((0 : Nat) < m)] (Res.out Ex.normal [AV.ptr (0 : Nat) (0 : Nat) (0 : Nat) (0 : Nat), AV.ptr (2 : Nat) (0 : Nat) (0 : Nat) (0 : Nat), AV.ptr (3 : Nat) (0 : Nat) (0 : Nat) (0 : Nat), AV.v (Value.int IntKind.i64 n), AV.v (Value.int IntKind.i64 (IntKind.wrap IntKind.i64 ((↑i : Int) + (1 : Int))))] [AB.cells [AV.sl (1 : Nat) (1 : Nat) (0 : Nat) (0 : Nat) l c, AV.v (Value.int IntKind.i64 (p + (1 : Int) + (1 : Int)))] tr, AB.row false m (1 : Nat) (rowB b) tb, AB.cells [AV.v (Value.int IntKind.i64 (0 : Int)), AV.v (Value.int IntKind.i64 (0 : Int)), AV.v (Value.int IntKind.i64 (0 : Int)), AV.v (Value.int IntKind.i64 (0 : Int)), AV.v (Value.int IntKind.i64 (0 : Int)), AV.v (Value.int IntKind.i64 (0 : Int)), AV.v (Value.int IntKind.i64 (0 : Int)), AV.v (Value.int IntKind.i64 (0 : Int))] (31 : TypeId), AB.cells [AV.v (Value.int IntKind.i64 (a (0 : Nat))), AV.v (Value.int IntKind.i64 (IntKind.wrap IntKind.i64 (pk l (itB (rowB b)) (p + (1 : Int)) (9 : Int) - (4 : Int)))), AV.v (Value.int IntKind.i64 (a (2 : Nat))), AV.v (Value.int IntKind.i64 (a (3 : Nat))), AV.v (Value.int IntKind.i64 (a (4 : Nat))), AV.v (Value.int IntKind.i64 (a (5 : Nat))), AV.v (Value.int IntKind.i64 (a (6 : Nat))), AV.v (Value.int IntKind.i64 (a (7 : Nat)))] (31 : TypeId)]) else Res.out (Ex.exit (1 : Nat)) [AV.ptr (0 : Nat) (0 : Nat) (0 : Nat) (0 : Nat), AV.ptr (2 : Nat) (0 : Nat) (0 : Nat) (0 : Nat), AV.ptr (3 : Nat) (0 : Nat) (0 : Nat) (0 : Nat)] [AB.cells [AV.sl (1 : Nat) (1 : Nat) (0 : Nat) (0 : Nat) l c, AV.v (Value.int IntKind.i64 p)] tr, AB.row false m (1 : Nat) (rowB b) tb, AB.cells [AV.v (Value.int IntKind.i64 (0 : Int)), AV.v (Value.int IntKind.i64 (0 : Int)), AV.v (Value.int IntKind.i64 (0 : Int)), AV.v (Value.int IntKind.i64 (0 : Int)), AV.v (Value.int IntKind.i64 (0 : Int)), AV.v (Value.int IntKind.i64 (0 : Int)), AV.v (Value.int IntKind.i64 (0 : Int)), AV.v (Value.int IntKind.i64 (0 : Int))] (31 : TypeId), AB.cells [AV.v (Value.int IntKind.i64 (a (0 : Nat))), AV.v (Value.int IntKind.i64 (a (1 : Nat))), AV.v (Value.int IntKind.i64 (a (2 : Nat))), AV.v (Value.int IntKind.i64 (a (3 : Nat))), AV.v (Value.int IntKind.i64 (a (4 : Nat))), AV.v (Value.int IntKind.i64 (a (5 : Nat))), AV.v (Value.int IntKind.i64 (a (6 : Nat))), AV.v (Value.int IntKind.i64 (a (7 : Nat)))] (31 : TypeId)] := by kernel_rfl

theorem rndCy2 (pk : Nat → (Nat → Int) → Int → Int → Int) (l : Nat) (c : Option Nat) (p : Int) (m : Nat) (b : Nat → Int) (tr tb : TypeId) (a : Nat → Int) (n : Int) (i : Nat) : exCy pk l c p m b tr tb a n i 2
    = bif decide ((↑i : Int) < n) then needs [okB m (rowB b), decide (l ≤ m), decide ((0 : Int) ≤ p), decide (p ≤ (1073741824 : Int)), decide (pk l (itB (rowB b)) p (8 : Int) = (2 : Int)), decide ((0 : Nat) < m), okB m (rowB b), decide (l ≤ m), decide ((0 : Int) ≤ p + (1 : Int)), decide (p + (1 : Int) ≤ (1073741824 : Int)), decide ((0 : Nat) < m)] (Res.out Ex.normal [AV.ptr (0 : Nat) (0 : Nat) (0 : Nat) (0 : Nat), AV.ptr (2 : Nat) (0 : Nat) (0 : Nat) (0 : Nat), AV.ptr (3 : Nat) (0 : Nat) (0 : Nat) (0 : Nat), AV.v (Value.int IntKind.i64 n), AV.v (Value.int IntKind.i64 (IntKind.wrap IntKind.i64 ((↑i : Int) + (1 : Int))))] [AB.cells [AV.sl (1 : Nat) (1 : Nat) (0 : Nat) (0 : Nat) l c, AV.v (Value.int IntKind.i64 (p + (1 : Int) + (1 : Int)))] tr, AB.row false m (1 : Nat) (rowB b) tb, AB.cells [AV.v (Value.int IntKind.i64 (0 : Int)), AV.v (Value.int IntKind.i64 (0 : Int)), AV.v (Value.int IntKind.i64 (0 : Int)), AV.v (Value.int IntKind.i64 (0 : Int)), AV.v (Value.int IntKind.i64 (0 : Int)), AV.v (Value.int IntKind.i64 (0 : Int)), AV.v (Value.int IntKind.i64 (0 : Int)), AV.v (Value.int IntKind.i64 (0 : Int))] (31 : TypeId), AB.cells [AV.v (Value.int IntKind.i64 (a (0 : Nat))), AV.v (Value.int IntKind.i64 (a (1 : Nat))), AV.v (Value.int IntKind.i64 (IntKind.wrap IntKind.i64 (pk l (itB (rowB b)) (p + (1 : Int)) (9 : Int) - (4 : Int)))), AV.v (Value.int IntKind.i64 (a (3 : Nat))), AV.v (Value.int IntKind.i64 (a (4 : Nat))), AV.v (Value.int IntKind.i64 (a (5 : Nat))), AV.v (Value.int IntKind.i64 (a (6 : Nat))), AV.v (Value.int IntKind.i64 (a (7 : Nat)))] (31 : TypeId)]) else Res.out (Ex.exit (1 : Nat)) [AV.ptr (0 : Nat) (0 : Nat) (0 : Nat) (0 : Nat), AV.ptr (2 : Nat) (0 : Nat) (0 : Nat) (0 : Nat), AV.ptr (3 : Nat) (0 : Nat) (0 : Nat) (0 : Nat)] [AB.cells [AV.sl (1 : Nat) (1 : Nat) (0 : Nat) (0 : Nat) l c, AV.v (Value.int IntKind.i64 p)] tr, AB.row false m (1 : Nat) (rowB b) tb, AB.cells [AV.v (Value.int IntKind.i64 (0 : Int)), AV.v (Value.int IntKind.i64 (0 : Int)), AV.v (Value.int IntKind.i64 (0 : Int)), AV.v (Value.int IntKind.i64 (0 : Int)), AV.v (Value.int IntKind.i64 (0 : Int)), AV.v (Value.int IntKind.i64 (0 : Int)), AV.v (Value.int IntKind.i64 (0 : Int)), AV.v (Value.int IntKind.i64 (0 : Int))] (31 : TypeId), AB.cells [AV.v (Value.int IntKind.i64 (a (0 : Nat))), AV.v (Value.int IntKind.i64 (a (1 : Nat))), AV.v (Value.int IntKind.i64 (a (2 : Nat))), AV.v (Value.int IntKind.i64 (a (3 : Nat))), AV.v (Value.int IntKind.i64 (a (4 : Nat))), AV.v (Value.int IntKind.i64 (a (5 : Nat))), AV.v (Value.int IntKind.i64 (a (6 : Nat))), AV.v (Value.int IntKind.i64 (a (7 : Nat)))] (31 : TypeId)] := by kernel_rfl

theorem rndCy3 (pk : Nat → (Nat → Int) → Int → Int → Int) (l : Nat) (c : Option Nat) (p : Int) (m : Nat) (b : Nat → Int) (tr tb : TypeId) (a : Nat → Int) (n : Int) (i : Nat) : exCy pk l c p m b tr tb a n i 3
    = bif decide ((↑i : Int) < n) then needs [okB m (rowB b), decide (l ≤ m), decide ((0 : Int) ≤ p), decide (p ≤ (1073741824 : Int)), decide (pk l (itB (rowB b)) p (8 : Int) = (3 : Int)), decide ((0 : Nat) < m), okB m (rowB b), decide (l ≤ m), decide ((0 : Int) ≤ p + (1 : Int)), decide (p + (1 : Int) ≤ (1073741824 : Int)), decide ((0 : Nat) < m)] (Res.out Ex.normal [AV.ptr (0 : Nat) (0 : Nat) (0 : Nat) (0 : Nat), AV.ptr (2 : Nat) (0 : Nat) (0 : Nat) (0 : Nat), AV.ptr (3 : Nat) (0 : Nat) (0 : Nat) (0 : Nat), AV.v (Value.int IntKind.i64 n), AV.v (Value.int IntKind.i64 (IntKind.wrap IntKind.i64 ((↑i : Int) + (1 : Int))))] [AB.cells [AV.sl (1 : Nat) (1 : Nat) (0 : Nat) (0 : Nat) l c, AV.v (Value.int IntKind.i64 (p + (1 : Int) + (1 : Int)))] tr, AB.row false m (1 : Nat) (rowB b) tb, AB.cells [AV.v (Value.int IntKind.i64 (0 : Int)), AV.v (Value.int IntKind.i64 (0 : Int)), AV.v (Value.int IntKind.i64 (0 : Int)), AV.v (Value.int IntKind.i64 (0 : Int)), AV.v (Value.int IntKind.i64 (0 : Int)), AV.v (Value.int IntKind.i64 (0 : Int)), AV.v (Value.int IntKind.i64 (0 : Int)), AV.v (Value.int IntKind.i64 (0 : Int))] (31 : TypeId), AB.cells [AV.v (Value.int IntKind.i64 (a (0 : Nat))), AV.v (Value.int IntKind.i64 (a (1 : Nat))), AV.v (Value.int IntKind.i64 (a (2 : Nat))), AV.v (Value.int IntKind.i64 (IntKind.wrap IntKind.i64 (pk l (itB (rowB b)) (p + (1 : Int)) (9 : Int) - (4 : Int)))), AV.v (Value.int IntKind.i64 (a (4 : Nat))), AV.v (Value.int IntKind.i64 (a (5 : Nat))), AV.v (Value.int IntKind.i64 (a (6 : Nat))), AV.v (Value.int IntKind.i64 (a (7 : Nat)))] (31 : TypeId)]) else Res.out (Ex.exit (1 : Nat)) [AV.ptr (0 : Nat) (0 : Nat) (0 : Nat) (0 : Nat), AV.ptr (2 : Nat) (0 : Nat) (0 : Nat) (0 : Nat), AV.ptr (3 : Nat) (0 : Nat) (0 : Nat) (0 : Nat)] [AB.cells [AV.sl (1 : Nat) (1 : Nat) (0 : Nat) (0 : Nat) l c, AV.v (Value.int IntKind.i64 p)] tr, AB.row false m (1 : Nat) (rowB b) tb, AB.cells [AV.v (Value.int IntKind.i64 (0 : Int)), AV.v (Value.int IntKind.i64 (0 : Int)), AV.v (Value.int IntKind.i64 (0 : Int)), AV.v (Value.int IntKind.i64 (0 : Int)), AV.v (Value.int IntKind.i64 (0 : Int)), AV.v (Value.int IntKind.i64 (0 : Int)), AV.v (Value.int IntKind.i64 (0 : Int)), AV.v (Value.int IntKind.i64 (0 : Int))] (31 : TypeId), AB.cells [AV.v (Value.int IntKind.i64 (a (0 : Nat))), AV.v (Value.int IntKind.i64 (a (1 : Nat))), AV.v (Value.int IntKind.i64 (a (2 : Nat))), AV.v (Value.int IntKind.i64 (a (3 : Nat))), AV.v (Value.int IntKind.i64 (a (4 : Nat))), AV.v (Value.int IntKind.i64 (a (5 : Nat))), AV.v (Value.int IntKind.i64 (a (6 : Nat))), AV.v (Value.int IntKind.i64 (a (7 : Nat)))] (31 : TypeId)] := by kernel_rfl

theorem rndCy4 (pk : Nat → (Nat → Int) → Int → Int → Int) (l : Nat) (c : Option Nat) (p : Int) (m : Nat) (b : Nat → Int) (tr tb : TypeId) (a : Nat → Int) (n : Int) (i : Nat) : exCy pk l c p m b tr tb a n i 4
    = bif decide ((↑i : Int) < n) then needs [okB m (rowB b), decide (l ≤ m), decide ((0 : Int) ≤ p), decide (p ≤ (1073741824 : Int)), decide (pk l (itB (rowB b)) p (8 : Int) = (4 : Int)), decide ((0 : Nat) < m), okB m (rowB b), decide (l ≤ m), decide ((0 : Int) ≤ p + (1 : Int)), decide (p + (1 : Int) ≤ (1073741824 : Int)), decide ((0 : Nat) < m)] (Res.out Ex.normal [AV.ptr (0 : Nat) (0 : Nat) (0 : Nat) (0 : Nat), AV.ptr (2 : Nat) (0 : Nat) (0 : Nat) (0 : Nat), AV.ptr (3 : Nat) (0 : Nat) (0 : Nat) (0 : Nat), AV.v (Value.int IntKind.i64 n), AV.v (Value.int IntKind.i64 (IntKind.wrap IntKind.i64 ((↑i : Int) + (1 : Int))))] [AB.cells [AV.sl (1 : Nat) (1 : Nat) (0 : Nat) (0 : Nat) l c, AV.v (Value.int IntKind.i64 (p + (1 : Int) + (1 : Int)))] tr, AB.row false m (1 : Nat) (rowB b) tb, AB.cells [AV.v (Value.int IntKind.i64 (0 : Int)), AV.v (Value.int IntKind.i64 (0 : Int)), AV.v (Value.int IntKind.i64 (0 : Int)), AV.v (Value.int IntKind.i64 (0 : Int)), AV.v (Value.int IntKind.i64 (0 : Int)), AV.v (Value.int IntKind.i64 (0 : Int)), AV.v (Value.int IntKind.i64 (0 : Int)), AV.v (Value.int IntKind.i64 (0 : Int))] (31 : TypeId), AB.cells [AV.v (Value.int IntKind.i64 (a (0 : Nat))), AV.v (Value.int IntKind.i64 (a (1 : Nat))), AV.v (Value.int IntKind.i64 (a (2 : Nat))), AV.v (Value.int IntKind.i64 (a (3 : Nat))), AV.v (Value.int IntKind.i64 (IntKind.wrap IntKind.i64 (pk l (itB (rowB b)) (p + (1 : Int)) (9 : Int) - (4 : Int)))), AV.v (Value.int IntKind.i64 (a (5 : Nat))), AV.v (Value.int IntKind.i64 (a (6 : Nat))), AV.v (Value.int IntKind.i64 (a (7 : Nat)))] (31 : TypeId)]) else Res.out (Ex.exit (1 : Nat)) [AV.ptr (0 : Nat) (0 : Nat) (0 : Nat) (0 : Nat), AV.ptr (2 : Nat) (0 : Nat) (0 : Nat) (0 : Nat), AV.ptr (3 : Nat) (0 : Nat) (0 : Nat) (0 : Nat)] [AB.cells [AV.sl (1 : Nat) (1 : Nat) (0 : Nat) (0 : Nat) l c, AV.v (Value.int IntKind.i64 p)] tr, AB.row false m (1 : Nat) (rowB b) tb, AB.cells [AV.v (Value.int IntKind.i64 (0 : Int)), AV.v (Value.int IntKind.i64 (0 : Int)), AV.v (Value.int IntKind.i64 (0 : Int)), AV.v (Value.int IntKind.i64 (0 : Int)), AV.v (Value.int IntKind.i64 (0 : Int)), AV.v (Value.int IntKind.i64 (0 : Int)), AV.v (Value.int IntKind.i64 (0 : Int)), AV.v (Value.int IntKind.i64 (0 : Int))] (31 : TypeId), AB.cells [AV.v (Value.int IntKind.i64 (a (0 : Nat))), AV.v (Value.int IntKind.i64 (a (1 : Nat))), AV.v (Value.int IntKind.i64 (a (2 : Nat))), AV.v (Value.int IntKind.i64 (a (3 : Nat))), AV.v (Value.int IntKind.i64 (a (4 : Nat))), AV.v (Value.int IntKind.i64 (a (5 : Nat))), AV.v (Value.int IntKind.i64 (a (6 : Nat))), AV.v (Value.int IntKind.i64 (a (7 : Nat)))] (31 : TypeId)] := by kernel_rfl

theorem rndCy5 (pk : Nat → (Nat → Int) → Int → Int → Int) (l : Nat) (c : Option Nat) (p : Int) (m : Nat) (b : Nat → Int) (tr tb : TypeId) (a : Nat → Int) (n : Int) (i : Nat) : exCy pk l c p m b tr tb a n i 5
    = bif decide ((↑i : Int) < n) then needs [okB m (rowB b), decide (l ≤ m), decide ((0 : Int) ≤ p), decide (p ≤ (1073741824 : Int)), decide (pk l (itB (rowB b)) p (8 : Int) = (5 : Int)), decide ((0 : Nat) < m), okB m (rowB b), decide (l ≤ m), decide ((0 : Int) ≤ p + (1 : Int)), decide (p + (1 : Int) ≤ (1073741824 : Int)), decide ((0 : Nat) < m)] (Res.out Ex.normal [AV.ptr (0 : Nat) (0 : Nat) (0 : Nat) (0 : Nat), AV.ptr (2 : Nat) (0 : Nat) (0 : Nat) (0 : Nat), AV.ptr (3 : Nat) (0 : Nat) (0 : Nat) (0 : Nat), AV.v (Value.int IntKind.i64 n), AV.v (Value.int IntKind.i64 (IntKind.wrap IntKind.i64 ((↑i : Int) + (1 : Int))))] [AB.cells [AV.sl (1 : Nat) (1 : Nat) (0 : Nat) (0 : Nat) l c, AV.v (Value.int IntKind.i64 (p + (1 : Int) + (1 : Int)))] tr, AB.row false m (1 : Nat) (rowB b) tb, AB.cells [AV.v (Value.int IntKind.i64 (0 : Int)), AV.v (Value.int IntKind.i64 (0 : Int)), AV.v (Value.int IntKind.i64 (0 : Int)), AV.v (Value.int IntKind.i64 (0 : Int)), AV.v (Value.int IntKind.i64 (0 : Int)), AV.v (Value.int IntKind.i64 (0 : Int)), AV.v (Value.int IntKind.i64 (0 : Int)), AV.v (Value.int IntKind.i64 (0 : Int))] (31 : TypeId), AB.cells [AV.v (Value.int IntKind.i64 (a (0 : Nat))), AV.v (Value.int IntKind.i64 (a (1 : Nat))), AV.v (Value.int IntKind.i64 (a (2 : Nat))), AV.v (Value.int IntKind.i64 (a (3 : Nat))), AV.v (Value.int IntKind.i64 (a (4 : Nat))), AV.v (Value.int IntKind.i64 (IntKind.wrap IntKind.i64 (pk l (itB (rowB b)) (p + (1 : Int)) (9 : Int) - (4 : Int)))), AV.v (Value.int IntKind.i64 (a (6 : Nat))), AV.v (Value.int IntKind.i64 (a (7 : Nat)))] (31 : TypeId)]) else Res.out (Ex.exit (1 : Nat)) [AV.ptr (0 : Nat) (0 : Nat) (0 : Nat) (0 : Nat), AV.ptr (2 : Nat) (0 : Nat) (0 : Nat) (0 : Nat), AV.ptr (3 : Nat) (0 : Nat) (0 : Nat) (0 : Nat)] [AB.cells [AV.sl (1 : Nat) (1 : Nat) (0 : Nat) (0 : Nat) l c, AV.v (Value.int IntKind.i64 p)] tr, AB.row false m (1 : Nat) (rowB b) tb, AB.cells [AV.v (Value.int IntKind.i64 (0 : Int)), AV.v (Value.int IntKind.i64 (0 : Int)), AV.v (Value.int IntKind.i64 (0 : Int)), AV.v (Value.int IntKind.i64 (0 : Int)), AV.v (Value.int IntKind.i64 (0 : Int)), AV.v (Value.int IntKind.i64 (0 : Int)), AV.v (Value.int IntKind.i64 (0 : Int)), AV.v (Value.int IntKind.i64 (0 : Int))] (31 : TypeId), AB.cells [AV.v (Value.int IntKind.i64 (a (0 : Nat))), AV.v (Value.int IntKind.i64 (a (1 : Nat))), AV.v (Value.int IntKind.i64 (a (2 : Nat))), AV.v (Value.int IntKind.i64 (a (3 : Nat))), AV.v (Value.int IntKind.i64 (a (4 : Nat))), AV.v (Value.int IntKind.i64 (a (5 : Nat))), AV.v (Value.int IntKind.i64 (a (6 : Nat))), AV.v (Value.int IntKind.i64 (a (7 : Nat)))] (31 : TypeId)] := by kernel_rfl

theorem rndCy6 (pk : Nat → (Nat → Int) → Int → Int → Int) (l : Nat) (c : Option Nat) (p : Int) (m : Nat) (b : Nat → Int) (tr tb : TypeId) (a : Nat → Int) (n : Int) (i : Nat) : exCy pk l c p m b tr tb a n i 6
    = bif decide ((↑i : Int) < n) then needs [okB m (rowB b), decide (l ≤ m), decide ((0 : Int) ≤ p), decide (p ≤ (1073741824 : Int)), decide (pk l (itB (rowB b)) p (8 : Int) = (6 : Int)), decide ((0 : Nat) < m), okB m (rowB b), decide (l ≤ m), decide ((0 : Int) ≤ p + (1 : Int)), decide (p + (1 : Int) ≤ (1073741824 : Int)), decide ((0 : Nat) < m)] (Res.out Ex.normal [AV.ptr (0 : Nat) (0 : Nat) (0 : Nat) (0 : Nat), AV.ptr (2 : Nat) (0 : Nat) (0 : Nat) (0 : Nat), AV.ptr (3 : Nat) (0 : Nat) (0 : Nat) (0 : Nat), AV.v (Value.int IntKind.i64 n), AV.v (Value.int IntKind.i64 (IntKind.wrap IntKind.i64 ((↑i : Int) + (1 : Int))))] [AB.cells [AV.sl (1 : Nat) (1 : Nat) (0 : Nat) (0 : Nat) l c, AV.v (Value.int IntKind.i64 (p + (1 : Int) + (1 : Int)))] tr, AB.row false m (1 : Nat) (rowB b) tb, AB.cells [AV.v (Value.int IntKind.i64 (0 : Int)), AV.v (Value.int IntKind.i64 (0 : Int)), AV.v (Value.int IntKind.i64 (0 : Int)), AV.v (Value.int IntKind.i64 (0 : Int)), AV.v (Value.int IntKind.i64 (0 : Int)), AV.v (Value.int IntKind.i64 (0 : Int)), AV.v (Value.int IntKind.i64 (0 : Int)), AV.v (Value.int IntKind.i64 (0 : Int))] (31 : TypeId), AB.cells [AV.v (Value.int IntKind.i64 (a (0 : Nat))), AV.v (Value.int IntKind.i64 (a (1 : Nat))), AV.v (Value.int IntKind.i64 (a (2 : Nat))), AV.v (Value.int IntKind.i64 (a (3 : Nat))), AV.v (Value.int IntKind.i64 (a (4 : Nat))), AV.v (Value.int IntKind.i64 (a (5 : Nat))), AV.v (Value.int IntKind.i64 (IntKind.wrap IntKind.i64 (pk l (itB (rowB b)) (p + (1 : Int)) (9 : Int) - (4 : Int)))), AV.v (Value.int IntKind.i64 (a (7 : Nat)))] (31 : TypeId)]) else Res.out (Ex.exit (1 : Nat)) [AV.ptr (0 : Nat) (0 : Nat) (0 : Nat) (0 : Nat), AV.ptr (2 : Nat) (0 : Nat) (0 : Nat) (0 : Nat), AV.ptr (3 : Nat) (0 : Nat) (0 : Nat) (0 : Nat)] [AB.cells [AV.sl (1 : Nat) (1 : Nat) (0 : Nat) (0 : Nat) l c, AV.v (Value.int IntKind.i64 p)] tr, AB.row false m (1 : Nat) (rowB b) tb, AB.cells [AV.v (Value.int IntKind.i64 (0 : Int)), AV.v (Value.int IntKind.i64 (0 : Int)), AV.v (Value.int IntKind.i64 (0 : Int)), AV.v (Value.int IntKind.i64 (0 : Int)), AV.v (Value.int IntKind.i64 (0 : Int)), AV.v (Value.int IntKind.i64 (0 : Int)), AV.v (Value.int IntKind.i64 (0 : Int)), AV.v (Value.int IntKind.i64 (0 : Int))] (31 : TypeId), AB.cells [AV.v (Value.int IntKind.i64 (a (0 : Nat))), AV.v (Value.int IntKind.i64 (a (1 : Nat))), AV.v (Value.int IntKind.i64 (a (2 : Nat))), AV.v (Value.int IntKind.i64 (a (3 : Nat))), AV.v (Value.int IntKind.i64 (a (4 : Nat))), AV.v (Value.int IntKind.i64 (a (5 : Nat))), AV.v (Value.int IntKind.i64 (a (6 : Nat))), AV.v (Value.int IntKind.i64 (a (7 : Nat)))] (31 : TypeId)] := by kernel_rfl

theorem rndCy7 (pk : Nat → (Nat → Int) → Int → Int → Int) (l : Nat) (c : Option Nat) (p : Int) (m : Nat) (b : Nat → Int) (tr tb : TypeId) (a : Nat → Int) (n : Int) (i : Nat) : exCy pk l c p m b tr tb a n i 7
    = bif decide ((↑i : Int) < n) then needs [okB m (rowB b), decide (l ≤ m), decide ((0 : Int) ≤ p), decide (p ≤ (1073741824 : Int)), decide (pk l (itB (rowB b)) p (8 : Int) = (7 : Int)), decide ((0 : Nat) < m), okB m (rowB b), decide (l ≤ m), decide ((0 : Int) ≤ p + (1 : Int)), decide (p + (1 : Int) ≤ (1073741824 : Int)), decide ((0 : Nat) < m)] (Res.out Ex.normal [AV.ptr (0 : Nat) (0 : Nat) (0 : Nat) (0 : Nat), AV.ptr (2 : Nat) (0 : Nat) (0 : Nat) (0 : Nat), AV.ptr (3 : Nat) (0 : Nat) (0 : Nat) (0 : Nat), AV.v (Value.int IntKind.i64 n), AV.v (Value.int IntKind.i64 (IntKind.wrap IntKind.i64 ((↑i : Int) + (1 : Int))))] [AB.cells [AV.sl (1 : Nat) (1 : Nat) (0 : Nat) (0 : Nat) l c, AV.v (Value.int IntKind.i64 (p + (1 : Int) + (1 : Int)))] tr, AB.row false m (1 : Nat) (rowB b) tb, AB.cells [AV.v (Value.int IntKind.i64 (0 : Int)), AV.v (Value.int IntKind.i64 (0 : Int)), AV.v (Value.int IntKind.i64 (0 : Int)), AV.v (Value.int IntKind.i64 (0 : Int)), AV.v (Value.int IntKind.i64 (0 : Int)), AV.v (Value.int IntKind.i64 (0 : Int)), AV.v (Value.int IntKind.i64 (0 : Int)), AV.v (Value.int IntKind.i64 (0 : Int))] (31 : TypeId), AB.cells [AV.v (Value.int IntKind.i64 (a (0 : Nat))), AV.v (Value.int IntKind.i64 (a (1 : Nat))), AV.v (Value.int IntKind.i64 (a (2 : Nat))), AV.v (Value.int IntKind.i64 (a (3 : Nat))), AV.v (Value.int IntKind.i64 (a (4 : Nat))), AV.v (Value.int IntKind.i64 (a (5 : Nat))), AV.v (Value.int IntKind.i64 (a (6 : Nat))), AV.v (Value.int IntKind.i64 (IntKind.wrap IntKind.i64 (pk l (itB (rowB b)) (p + (1 : Int)) (9 : Int) - (4 : Int))))] (31 : TypeId)]) else Res.out (Ex.exit (1 : Nat)) [AV.ptr (0 : Nat) (0 : Nat) (0 : Nat) (0 : Nat), AV.ptr (2 : Nat) (0 : Nat) (0 : Nat) (0 : Nat), AV.ptr (3 : Nat) (0 : Nat) (0 : Nat) (0 : Nat)] [AB.cells [AV.sl (1 : Nat) (1 : Nat) (0 : Nat) (0 : Nat) l c, AV.v (Value.int IntKind.i64 p)] tr, AB.row false m (1 : Nat) (rowB b) tb, AB.cells [AV.v (Value.int IntKind.i64 (0 : Int)), AV.v (Value.int IntKind.i64 (0 : Int)), AV.v (Value.int IntKind.i64 (0 : Int)), AV.v (Value.int IntKind.i64 (0 : Int)), AV.v (Value.int IntKind.i64 (0 : Int)), AV.v (Value.int IntKind.i64 (0 : Int)), AV.v (Value.int IntKind.i64 (0 : Int)), AV.v (Value.int IntKind.i64 (0 : Int))] (31 : TypeId), AB.cells [AV.v (Value.int IntKind.i64 (a (0 : Nat))), AV.v (Value.int IntKind.i64 (a (1 : Nat))), AV.v (Value.int IntKind.i64 (a (2 : Nat))), AV.v (Value.int IntKind.i64 (a (3 : Nat))), AV.v (Value.int IntKind.i64 (a (4 : Nat))), AV.v (Value.int IntKind.i64 (a (5 : Nat))), AV.v (Value.int IntKind.i64 (a (6 : Nat))), AV.v (Value.int IntKind.i64 (a (7 : Nat)))] (31 : TypeId)] := by kernel_rfl

noncomputable abbrev lamCy (l : Nat) (c : Option Nat) (m : Nat) (b : Nat → Int) (tr tb : TypeId) (n p1 p2 : Int) (a : Nat → Int) : Nat → Option Sum := oneL 1 (atS 57 (lvCy .normal) 2 (stCy n 0) (hpCy l c p1 m b tr tb fun _ => 0) (fun K => K .normal (mkT 0 57 [(0, .ptr 0 0 0 0), (2, .ptr 2 0 0 0), (3, .ptr 3 0 0 0)]) (hpCy l c p2 m b tr tb a)))
def gmCy (pk : Nat → (Nat → Int) → Int → Int → Int) (is : Int → Bool) (tu : (Nat → Int) → Int → Nat → Int) : Gam := ext (ext (ext g0 70 (specK [] (FpkO pk))) 130 (specV (fIsO is))) 77 (specR [.val, .val] (FtuO tu))
theorem treeCy (pk : Nat → (Nat → Int) → Int → Int → Int) (is : Int → Bool) (tu : (Nat → Int) → Int → Nat → Int) (l : Nat) (c : Option Nat) (p : Int) (m : Nat) (b : Nat → Int) (tr tb : TypeId) (n p1 p2 : Int) (a : Nat → Int) : execF Try.prog (gmCy pk is tu) (lamCy l c m b tr tb n p1 p2 a) 100 fCy [.ptr 0 0 0 0] (hpRd l c p m b tr tb) (packK 2)
    = needs [okB m (rowB b), decide (l ≤ m), decide ((0 : Int) ≤ p), decide (p ≤ (1073741824 : Int)), decide ((0 : Nat) < m)] (bif pk l (itB (rowB b)) p (8 : Int) == (0 : Int) then needs [okB m (rowB b), decide (l ≤ m), decide ((0 : Int) ≤ p + (1 : Int)), decide (p + (1 : Int) ≤ (1073741824 : Int)), decide ((0 : Nat) < m)] (bif !is (pk l (itB (rowB b)) (p + (1 : Int)) (24 : Int)) then Res.out Ex.ret [AV.agg [AV.v (Value.int IntKind.i64 (0 : Int)), AV.v (Value.int IntKind.i64 (0 : Int)), AV.v (Value.int IntKind.i64 (0 : Int)), AV.v (Value.int IntKind.i64 (0 : Int)), AV.v (Value.int IntKind.i64 (0 : Int)), AV.v (Value.int IntKind.i64 (0 : Int)), AV.v (Value.int IntKind.i64 (0 : Int)), AV.v (Value.int IntKind.i64 (0 : Int))]] [AB.cells [AV.sl (1 : Nat) (1 : Nat) (0 : Nat) (0 : Nat) l c, AV.v (Value.int IntKind.i64 (p + (1 : Int) + (1 : Int)))] tr, AB.row false m (1 : Nat) (rowB b) tb] else needs [decide (pk l (itB (rowB b)) (p + (1 : Int)) (24 : Int) ≤ (1099511627776 : Int))] (Res.out Ex.ret [AV.agg [AV.v (Value.int IntKind.i64 (tu (v8 (1 : Int) (0 : Int) (0 : Int) (0 : Int) (0 : Int) (0 : Int) (0 : Int) (0 : Int)) (pk l (itB (rowB b)) (p + (1 : Int)) (24 : Int)) (0 : Nat))), AV.v (Value.int IntKind.i64 (tu (v8 (1 : Int) (0 : Int) (0 : Int) (0 : Int) (0 : Int) (0 : Int) (0 : Int) (0 : Int)) (pk l (itB (rowB b)) (p + (1 : Int)) (24 : Int)) (1 : Nat))), AV.v (Value.int IntKind.i64 (tu (v8 (1 : Int) (0 : Int) (0 : Int) (0 : Int) (0 : Int) (0 : Int) (0 : Int) (0 : Int)) (pk l (itB (rowB b)) (p + (1 : Int)) (24 : Int)) (2 : Nat))), AV.v (Value.int IntKind.i64 (tu (v8 (1 : Int) (0 : Int) (0 : Int) (0 : Int) (0 : Int) (0 : Int) (0 : Int) (0 : Int)) (pk l (itB (rowB b)) (p + (1 : Int)) (24 : Int)) (3 : Nat))), AV.v (Value.int IntKind.i64 (tu (v8 (1 : Int) (0 : Int) (0 : Int) (0 : Int) (0 : Int) (0 : Int) (0 : Int) (0 : Int)) (pk l (itB (rowB b)) (p + (1 : Int)) (24 : Int)) (4 : Nat))), AV.v (Value.int IntKind.i64 (tu (v8 (1 : Int) (0 : Int) (0 : Int) (0 : Int) (0 : Int) (0 : Int) (0 : Int) (0 : Int)) (pk l (itB (rowB b)) (p + (1 : Int)) (24 : Int)) (5 : Nat))), AV.v (Value.int IntKind.i64 (tu (v8 (1 : Int) (0 : Int) (0 : Int) (0 : Int) (0 : Int) (0 : Int) (0 : Int) (0 : Int)) (pk l (itB (rowB b)) (p + (1 : Int)) (24 : Int)) (6 : Nat))), AV.v (Value.int IntKind.i64 (tu (v8 (1 : Int) (0 : Int) (0 : Int) (0 : Int) (0 : Int) (0 : Int) (0 : Int) (0 : Int)) (pk l (itB (rowB b)) (p + (1 : Int)) (24 : Int)) (7 : Nat)))]] [AB.cells [AV.sl (1 : Nat) (1 : Nat) (0 : Nat) (0 : Nat) l c, AV.v (Value.int IntKind.i64 (p + (1 : Int) + (1 : Int)))] tr, AB.row false m (1 : Nat) (rowB b) tb])) else bif pk l (itB (rowB b)) p (8 : Int) == (1 : Int) then needs [okB m (rowB b), decide (l ≤ m), decide ((0 : Int) ≤ p + (1 : Int)), decide (p + (1 : Int) ≤ (1073741824 : Int)), decide ((0 : Nat) < m), okB m (rowB b), decide (l ≤ m), decide ((0 : Int) ≤ p + (1 : Int) + (1 : Int)), decide (p + (1 : Int) + (1 : Int) ≤ (1073741824 : Int)), decide ((0 : Nat) < m)] (Res.out Ex.ret [AV.agg [AV.v (Value.int IntKind.i64 (IntKind.wrap IntKind.i64 (pk l (itB (rowB b)) (p + (1 : Int)) (9 : Int) - (4 : Int)))), AV.v (Value.int IntKind.i64 (0 : Int)), AV.v (Value.int IntKind.i64 (0 : Int)), AV.v (Value.int IntKind.i64 (0 : Int)), AV.v (Value.int IntKind.i64 (0 : Int)), AV.v (Value.int IntKind.i64 (0 : Int)), AV.v (Value.int IntKind.i64 (IntKind.wrap IntKind.i64 (pk l (itB (rowB b)) (p + (1 : Int) + (1 : Int)) (9 : Int) - (4 : Int)))), AV.v (Value.int IntKind.i64 (0 : Int))]] [AB.cells [AV.sl (1 : Nat) (1 : Nat) (0 : Nat) (0 : Nat) l c, AV.v (Value.int IntKind.i64 (p + (1 : Int) + (1 : Int) + (1 : Int)))] tr, AB.row false m (1 : Nat) (rowB b) tb]) else bif pk l (itB (rowB b)) p (8 : Int) == (2 : Int) then Res.out Ex.ret [AV.agg [AV.v (Value.int IntKind.i64 (0 : Int)), AV.v (Value.int IntKind.i64 (0 : Int)), AV.v (Value.int IntKind.i64 (0 : Int)), AV.v (Value.int IntKind.i64 (0 : Int)), AV.v (Value.int IntKind.i64 (0 : Int)), AV.v (Value.int IntKind.i64 (0 : Int)), AV.v (Value.int IntKind.i64 (0 : Int)), AV.v (Value.int IntKind.i64 (0 : Int))]] [AB.cells [AV.sl (1 : Nat) (1 : Nat) (0 : Nat) (0 : Nat) l c, AV.v (Value.int IntKind.i64 (p + (1 : Int)))] tr, AB.row false m (1 : Nat) (rowB b) tb] else needs [okB m (rowB b), decide (l ≤ m), decide ((0 : Int) ≤ p + (1 : Int)), decide (p + (1 : Int) ≤ (1073741824 : Int)), decide ((0 : Nat) < m), chk ([AV.ptr (0 : Nat) (0 : Nat) (0 : Nat) (0 : Nat), AV.ptr (2 : Nat) (0 : Nat) (0 : Nat) (0 : Nat), AV.ptr (3 : Nat) (0 : Nat) (0 : Nat) (0 : Nat), AV.v (Value.int IntKind.i64 (IntKind.wrap IntKind.i64 ((1 : Int) + pk l (itB (rowB b)) (p + (1 : Int)) (3 : Int)))), AV.v (Value.int IntKind.i64 (0 : Int))] = stCy n (0 : Nat) ∧ Hsim [AB.cells [AV.sl (1 : Nat) (1 : Nat) (0 : Nat) (0 : Nat) l c, AV.v (Value.int IntKind.i64 (p + (1 : Int) + (1 : Int)))] tr, AB.row false m (1 : Nat) (rowB b) tb, AB.cells [AV.v (Value.int IntKind.i64 (0 : Int)), AV.v (Value.int IntKind.i64 (0 : Int)), AV.v (Value.int IntKind.i64 (0 : Int)), AV.v (Value.int IntKind.i64 (0 : Int)), AV.v (Value.int IntKind.i64 (0 : Int)), AV.v (Value.int IntKind.i64 (0 : Int)), AV.v (Value.int IntKind.i64 (0 : Int)), AV.v (Value.int IntKind.i64 (0 : Int))] (31 : Nat), AB.cells [AV.v (Value.int IntKind.i64 (0 : Int)), AV.v (Value.int IntKind.i64 (0 : Int)), AV.v (Value.int IntKind.i64 (0 : Int)), AV.v (Value.int IntKind.i64 (0 : Int)), AV.v (Value.int IntKind.i64 (0 : Int)), AV.v (Value.int IntKind.i64 (0 : Int)), AV.v (Value.int IntKind.i64 (0 : Int)), AV.v (Value.int IntKind.i64 (0 : Int))] (31 : Nat)] (hpCy l c p1 m b tr tb fun _ ↦ (0 : Int))), okB m (rowB b), decide (l ≤ m), decide ((0 : Int) ≤ p2), decide (p2 ≤ (1073741824 : Int)), decide ((0 : Nat) < m)] (bif pk l (itB (rowB b)) p2 (30 : Int) == (0 : Int) then Res.out Ex.ret [AV.agg [AV.v (Value.int IntKind.i64 (1000001 : Int)), AV.v (Value.int IntKind.i64 (a (1 : Nat))), AV.v (Value.int IntKind.i64 (a (2 : Nat))), AV.v (Value.int IntKind.i64 (a (3 : Nat))), AV.v (Value.int IntKind.i64 (a (4 : Nat))), AV.v (Value.int IntKind.i64 (a (5 : Nat))), AV.v (Value.int IntKind.i64 (a (6 : Nat))), AV.v (Value.int IntKind.i64 (a (7 : Nat)))]] [AB.cells [AV.sl (1 : Nat) (1 : Nat) (0 : Nat) (0 : Nat) l c, AV.v (Value.int IntKind.i64 (p2 + (1 : Int)))] tr, AB.row false m (1 : Nat) (rowB b) tb] else bif pk l (itB (rowB b)) p2 (30 : Int) == (1 : Int) then Res.out Ex.ret [AV.agg [AV.v (Value.int IntKind.i64 (a (0 : Nat))), AV.v (Value.int IntKind.i64 (a (1 : Nat))), AV.v (Value.int IntKind.i64 (a (2 : Nat))), AV.v (Value.int IntKind.i64 (a (3 : Nat))), AV.v (Value.int IntKind.i64 (a (4 : Nat))), AV.v (Value.int IntKind.i64 (a (5 : Nat))), AV.v (Value.int IntKind.i64 (a (6 : Nat))), AV.v (Value.int IntKind.i64 (1000000 : Int))]] [AB.cells [AV.sl (1 : Nat) (1 : Nat) (0 : Nat) (0 : Nat) l c, AV.v (Value.int IntKind.i64 (p2 + (1 : Int)))] tr, AB.row false m (1 : Nat) (rowB b) tb] else Res.out Ex.ret [AV.agg [AV.v (Value.int IntKind.i64 (a (0 : Nat))), AV.v (Value.int IntKind.i64 (a (1 : Nat))), AV.v (Value.int IntKind.i64 (a (2 : Nat))), AV.v (Value.int IntKind.i64 (a (3 : Nat))), AV.v (Value.int IntKind.i64 (a (4 : Nat))), AV.v (Value.int IntKind.i64 (a (5 : Nat))), AV.v (Value.int IntKind.i64 (a (6 : Nat))), AV.v (Value.int IntKind.i64 (a (7 : Nat)))]] [AB.cells [AV.sl (1 : Nat) (1 : Nat) (0 : Nat) (0 : Nat) l c, AV.v (Value.int IntKind.i64 (p2 + (1 : Int)))] tr, AB.row false m (1 : Nat) (rowB b) tb])) := by kernel_rfl

end Go.Proofs.Ytmdcafhnjihckaa

/- The abstract machine, 28: loops whose table of callees goes by the round. Conditions: those of the tables. -/
namespace Go.Proofs.Ytmdcafhnjihckaa
open Go.RowKit

theorem loop_atG {id n m m0 N : Nat} {c : Code} {lv : Ex → List Nat} {out : Kont → Res} {σ : Type} (Γ : σ → Gam) (hΓ : ∀ s, GamOk Try.prog (Γ s)) (st : σ → List AV) (hp : σ → List AB) (Inv : σ → Prop) (μ : σ → Nat) (s0 : σ) (Λ : σ → Nat → Option Sum)
    (hr : ∀ e, risB (lv e) = true) (hm : m0 ≤ m) (h0 : Inv s0)
    (h : ∀ K Q, (out K).ok Q → ∀ s, Inv s → LamOk Try.prog m0 (Λ s) c ∧ GoodQ (execC Try.prog (Γ s) n (Λ s) c (mkT 0 N ((lv .normal).zip (st s))) (hp s) (leafV N lv m)) (RoundV N id lv st hp (fun s' => Inv s' ∧ μ s' < μ s) K Q)) :
    SumOk Try.prog m0 (.block id (.loop c)) (atS N (lv .normal) m (st s0) (hp s0) out) := by
  intro M w0 ν0 hM hm0 T H K Q a w ν hS hR hd
  unfold atS at hS
  cases hN : Nat.beq T.length N with
  | false => rw [hN] at hS; exact hS.elim
  | true =>
    rw [hN, cond_true] at hS
    have hN := Nat.eq_of_beq_eq_true hN
    split at hS
    · rename_i p hw
      rcases cond_ok hS with ⟨hc, hk⟩ | ⟨_, hk⟩
      · obtain ⟨hv, hsim⟩ := of_chk hc
        have hw' := weakL_some hw (hr .normal)
        rw [hN, hv] at hw'
        have hν : ∀ i b, ν0 i = some b → i < m := fun i b hb => Nat.lt_of_lt_of_le (hm0 i b hb) hm
        have key : ∀ (r : Nat) (s : σ) (a : Act) (w : World) (ν : Nu), Inv s → μ s < r → SR M w0 ν0 (mkT 0 N ((lv .normal).zip (st s))) (hp s) a w ν → a.defers = [] → Code.rounds Try.prog c (Exit.inBlock id (post M w0 ν0 K Q)) r a w := by
          intro r
          induction r with
          | zero => intro s a w ν _ hlt; omega
          | succ r ih =>
            intro s a w ν hi hlt hR hd
            rw [rounds_succ]
            obtain ⟨hL, hG⟩ := h K Q hk s hi
            refine wp_mono (execC_sound (hΓ s) mixed enters n m0 (Λ s) c hL M w0 ν0 hM hm0 _ _ _ _ a w ν hG.out hR hd) fun e a' w' hpp => ?_
            obtain ⟨e', T', H', ν', rfl, hk', hS', hd'⟩ := hpp
            unfold leafV at hk'
            cases hN' : Nat.beq T'.length N with
            | false => rw [hN'] at hk'; exact hk'.elim
            | true =>
              rw [hN', cond_true] at hk'
              have hN' := Nat.eq_of_beq_eq_true hN'
              split at hk'
              · rename_i q hwk
                have hwk' := weakL_some hwk (hr e')
                rw [hN'] at hwk'
                have hR' := weak_sound hwk' hS' hν
                cases e' with
                | normal =>
                  obtain ⟨s', ⟨i', hmu⟩, he, hs'⟩ := hk'
                  rw [he] at hR'
                  exact ih s' a' w' _ i' (by omega) (hR'.sim hs') hd'
                | exit j =>
                  simp only [Ex.to, Exit.then, Exit.inBlock]
                  obtain ⟨H'', hs', hkk⟩ := hk'
                  split
                  · rename_i hj
                    rw [if_pos hj] at hkk
                    exact ⟨.normal, _, _, _, rfl, hkk, hR'.sim hs', hd'⟩
                  · rename_i hj
                    rw [if_neg hj] at hkk
                    exact ⟨.exit j, _, _, _, rfl, hkk, hR'.sim hs', hd'⟩
                | ret =>
                  obtain ⟨H'', hs', hkk⟩ := hk'
                  exact ⟨.ret, _, _, _, rfl, hkk, hR'.sim hs', hd'⟩
              · exact hk'.elim
        have hR0 := (weak_sound hw' hR hν).sim hsim
        exact wp_block (wp_loop_rounds (μ s0 + 1) (key _ s0 a w _ h0 (Nat.lt_succ_self _) hR0 hd))
      · exact hk.elim
    · exact hS.elim

/-- A loop that counts. -/
theorem for_atG {id n m m0 N : Nat} {c : Code} {lv : Ex → List Nat} {out : Kont → Res} (Γ : Nat → Gam) (hΓ : ∀ s, GamOk Try.prog (Γ s)) (st : Nat → List AV) (hp : Nat → List AB) (okI : Nat → Prop) (len : Nat) (Λ : Nat → Nat → Option Sum)
    (hr : ∀ e, risB (lv e) = true) (hm : m0 ≤ m) (h0 : okI 0)
    (h : ∀ K Q, (out K).ok Q → ∀ i, okI i → i ≤ len → LamOk Try.prog m0 (Λ i) c ∧ GoodQ (execC Try.prog (Γ i) n (Λ i) c (mkT 0 N ((lv .normal).zip (st i))) (hp i) (leafV N lv m)) (RoundV N id lv st hp (fun s' => s' = i + 1 ∧ i < len ∧ okI (i + 1)) K Q)) :
    SumOk Try.prog m0 (.block id (.loop c)) (atS N (lv .normal) m (st 0) (hp 0) out) := by
  refine loop_atG (n := n) Γ hΓ st hp (fun i => okI i ∧ i ≤ len) (fun i => len - i) 0 Λ hr hm ⟨h0, Nat.zero_le _⟩ fun K Q hk i hi => ?_
  obtain ⟨h1, h2⟩ := h K Q hk i hi.1 hi.2
  refine ⟨h1, ⟨res_mono (fun e vs H' hq => ?_) h2.out⟩⟩
  cases e with
  | normal =>
    obtain ⟨s', ⟨rfl, hlt, hok⟩, h3, h4⟩ := hq
    exact ⟨_, ⟨⟨hok, hlt⟩, by omega⟩, h3, h4⟩
  | exit j => exact hq
  | ret => exact hq

end Go.Proofs.Ytmdcafhnjihckaa

/- l91Cyc: an exact point, whatever the bytes are. Conditions: those of pick. -/
namespace Go.Proofs.Ytmdcafhnjihckaa
open Go.RowKit
set_option maxRecDepth 100000

/-- The coefficients after some rounds. -/
def caF (l : Nat) (b : Nat → Int) (p : Int) : Nat → Nat → Int
  | 0 => fun _ => 0
  | i + 1 => fun k => if (k : Int) = pkV l b (p + 2 * (i : Int)) 8 then W (pkV l b (p + 2 * (i : Int) + 1) 9 - 4) else caF l b p i k
theorem caF_next (l : Nat) (b : Nat → Int) (p : Int) (i : Nat) {q : Int} (h : pkV l b (p + 2 * (i : Int)) 8 = q) (k : Nat) : caF l b p (i + 1) k = if (k : Int) = q then W (pkV l b (p + 2 * (i : Int) + 1) 9 - 4) else caF l b p i k := by
  subst h; rfl
theorem sumCy (l : Nat) (c : Option Nat) (p : Int) (m : Nat) (b : Nat → Int) (tr tb : TypeId) (N : Nat) (hb : okB m (rowB b) = true) (hl : l ≤ m) (h0 : 0 ≤ p) (h1 : p + 2 * (N : Int) ≤ 2 ^ 30) (hm : 0 < m) :
    SumOk Try.prog 2 (.block 1 (.loop (loopAt 1 fCy))) (atS 57 (lvCy .normal) 2 (stCy N 0) (hpCy l c p m b tr tb fun _ => 0) (fun K => K .normal (mkT 0 57 [(0, .ptr 0 0 0 0), (2, .ptr 2 0 0 0), (3, .ptr 3 0 0 0)]) (hpCy l c (p + 2 * (N : Int)) m b tr tb (caF l b p N)))) := by
  have e0 : hpCy l c p m b tr tb (fun _ => 0) = hpCy l c (p + 2 * ((0 : Nat) : Int)) m b tr tb (caF l b p 0) := by
    rw [show p + 2 * ((0 : Nat) : Int) = p by omega]
    rfl
  rw [e0]
  refine for_atG (n := 100) (m := 2) (lv := lvCy) (fun i => gmPJ pkV 8 (pkV l b (p + 2 * (i : Int)) 8)) (fun i => ext_ok g0_ok (ok_pickJ _ _)) (fun i => stCy N i) (fun i => hpCy l c (p + 2 * (i : Int)) m b tr tb (caF l b p i)) (fun _ => True) N (fun _ => noLam) (lv3_ris rfl rfl rfl) (Nat.le_refl _) trivial fun K Q hk i _ hi => ⟨noLam_ok _ _ _, ?_⟩
  show GoodQ (exCy pkV l c (p + 2 * (i : Int)) m b tr tb (caF l b p i) N i (pkV l b (p + 2 * (i : Int)) 8)) _
  have q0 := pkV_nn l b (p + 2 * (i : Int)) 8
  have q1 := pkV_lt l b (p + 2 * (i : Int)) (n := 8) (by omega)
  have key := fun (q : Int) (h : pkV l b (p + 2 * (i : Int)) 8 = q) => caF_next l b p i h
  have e2 : p + 2 * (i : Int) + 1 + 1 = p + 2 * ((i + 1 : Nat) : Int) := by omega
  generalize hq : pkV l b (p + 2 * (i : Int)) 8 = q at q0 q1 ⊢
  have hc := key q hq
  rcases (by omega : q = 0 ∨ q = 1 ∨ q = 2 ∨ q = 3 ∨ q = 4 ∨ q = 5 ∨ q = 6 ∨ q = 7) with rfl | rfl | rfl | rfl | rfl | rfl | rfl | rfl
  all_goals first | rw [rndCy0] | rw [rndCy1] | rw [rndCy2] | rw [rndCy3] | rw [rndCy4] | rw [rndCy5] | rw [rndCy6] | rw [rndCy7]
  all_goals
    refine good_cond (fun c1 => ?_) fun c1 => ?_
    · have c1 := of_decide_eq_true c1
      refine good_needs ?_ (good_out ⟨i + 1, ⟨rfl, by omega, trivial⟩, ?_, ?_⟩)
      · simp only [ob_cons, ob_nil, and_true, decide_eq_true_eq, itB_row, hb, hq, true_and]
        omega
      · rw [wr_in (x := (i : Int) + 1) (by omega)]
        rfl
      · show Hsim _ (hpCy l c (p + 2 * ((i + 1 : Nat) : Int)) m b tr tb (caF l b p (i + 1)))
        rw [← e2]
        unfold hpCy cyC
        rw [hc 0, hc 1, hc 2, hc 3, hc 4, hc 5, hc 6, hc 7]
        exact Hsim.refl _
    · have c1 := of_decide_eq_false c1
      have : i = N := by omega
      subst this
      refine good_out ⟨_, Hsim.refl _, ?_⟩
      rw [if_pos rfl]
      exact hk

theorem gmCy_ok : GamOk Try.prog (gmCy pkV (fun n => inR n 0 23) (fun a n => turnedF a n.toNat)) := by
  unfold gmCy
  rw [fIsO_eq, FtuO_eq]
  exact ext_ok (ext_ok (ext_ok g0_ok ok_pick) ok_l1Is) ok_turnedS
/-- Whatever the bytes are, a point comes out, and the reader goes on. -/
theorem cyc_ex (l : Nat) (b : Nat → Int) (p : Int) : ∃ (a : Nat → Int) (p' : Int), (p ≤ p' ∧ p' ≤ p + 12) ∧ ∀ (c : Option Nat) (m : Nat) (tr tb : TypeId), okB m (rowB b) = true → l ≤ m → 0 ≤ p → p ≤ 2 ^ 29 → 0 < m → ∃ Λ, (∀ cc, fCy.body = some cc → LamOk Try.prog 2 Λ cc) ∧
    GoodQ (execF Try.prog (gmCy pkV (fun n => inR n 0 23) (fun a n => turnedF a n.toNat)) Λ 100 fCy [.ptr 0 0 0 0] (hpRd l c p m b tr tb) (packK 2)) (fun _ vs He => vs = [.agg (cyC a)] ∧ Hsim He (hpRd l c p' m b tr tb)) := by
  have n0 := pkV_nn l b (p + 1) 3
  have n1 := pkV_lt l b (p + 1) (n := 3) (by omega)
  obtain ⟨N, hN⟩ : ∃ N : Nat, (N : Int) = 1 + pkV l b (p + 1) 3 := ⟨(1 + pkV l b (p + 1) 3).toNat, by omega⟩
  have lam : ∀ (c : Option Nat) (m : Nat) (tr tb : TypeId), okB m (rowB b) = true → l ≤ m → 0 ≤ p → p ≤ 2 ^ 29 → 0 < m → (∀ cc, fCy.body = some cc → LamOk Try.prog 2 (lamCy l c m b tr tb N (p + 1 + 1) (p + 1 + 1 + 2 * (N : Int)) (caF l b (p + 1 + 1) N)) cc) :=
    fun c m tr tb hb hl h0 h1 hm => lam1 (by kernel_rfl) (sumCy l c (p + 1 + 1) m b tr tb N hb hl (by omega) (by omega) hm)
  have ob1 : ∀ (m : Nat), okB m (rowB b) = true → l ≤ m → 0 < m → ∀ x : Int, 0 ≤ x → x ≤ 2 ^ 30 → obls [okB m (rowB b), decide (l ≤ m), decide (0 ≤ x), decide (x ≤ 1073741824), decide (0 < m)] = true := fun m hb hl hm x hx hx2 => by
    simp only [ob_cons, ob_nil, and_true, decide_eq_true_eq, hb, true_and]
    omega
  by_cases c0 : pkV l b p 8 = 0
  · have r0 := pkV_nn l b (p + 1) 24
    have r1 := pkV_lt l b (p + 1) (n := 24) (by omega)
    have ri : inR (pkV l b (p + 1) 24) 0 23 = true := by
      unfold inR
      simp only [Bool.and_eq_true, decide_eq_true_eq]
      omega
    refine ⟨turnedF (v8 1 0 0 0 0 0 0 0) (pkV l b (p + 1) 24).toNat, p + 1 + 1, by omega, fun c m tr tb hb hl h0 h1 hm => ⟨_, lam c m tr tb hb hl h0 h1 hm, ?_⟩⟩
    rw [treeCy]
    refine good_needs (ob1 m hb hl hm _ h0 (by omega)) (good_true (beq_iff_eq.2 c0) (good_needs (ob1 m hb hl hm _ (by omega) (by omega)) (good_false ?_ (good_needs ?_ (good_out ⟨rfl, Hsim.refl _⟩)))))
    · rw [itB_row, ri]; rfl
    · rw [ob_cons]
      exact ⟨decide_eq_true (show pkV l b (p + 1) 24 ≤ 1099511627776 by omega), rfl⟩
  · by_cases c1 : pkV l b p 8 = 1
    · refine ⟨v8 (W (pkV l b (p + 1) 9 - 4)) 0 0 0 0 0 (W (pkV l b (p + 1 + 1) 9 - 4)) 0, p + 1 + 1 + 1, by omega, fun c m tr tb hb hl h0 h1 hm => ⟨_, lam c m tr tb hb hl h0 h1 hm, ?_⟩⟩
      rw [treeCy]
      refine good_needs (ob1 m hb hl hm _ h0 (by omega)) (good_false (beq_eq_false_iff_ne.2 c0) (good_true (beq_iff_eq.2 c1) (good_needs ?_ (good_out ⟨rfl, Hsim.refl _⟩))))
      simp only [ob_cons, ob_nil, and_true, decide_eq_true_eq, hb, true_and]
      omega
    · by_cases c2 : pkV l b p 8 = 2
      · refine ⟨fun _ => 0, p + 1, by omega, fun c m tr tb hb hl h0 h1 hm => ⟨_, lam c m tr tb hb hl h0 h1 hm, ?_⟩⟩
        rw [treeCy]
        exact good_needs (ob1 m hb hl hm _ h0 (by omega)) (good_false (beq_eq_false_iff_ne.2 c0) (good_false (beq_eq_false_iff_ne.2 c1) (good_true (beq_iff_eq.2 c2) (good_out ⟨rfl, Hsim.refl _⟩))))
      · have ob2 : ∀ (c : Option Nat) (m : Nat) (tr tb : TypeId), okB m (rowB b) = true → l ≤ m → 0 ≤ p → p ≤ 2 ^ 29 → 0 < m → obls [okB m (rowB b), decide (l ≤ m), decide (0 ≤ p + 1), decide (p + 1 ≤ 1073741824), decide (0 < m), chk ([AV.ptr 0 0 0 0, AV.ptr 2 0 0 0, AV.ptr 3 0 0 0, AV.v (i64 (W (1 + pkV l b (p + 1) 3))), AV.v (i64 0)] = stCy N 0 ∧ Hsim (hpCy l c (p + 1 + 1) m b tr tb fun _ => 0) (hpCy l c (p + 1 + 1) m b tr tb fun _ => 0)), okB m (rowB b), decide (l ≤ m), decide (0 ≤ p + 1 + 1 + 2 * (N : Int)), decide (p + 1 + 1 + 2 * (N : Int) ≤ 1073741824), decide (0 < m)] = true := fun c m tr tb hb hl h0 h1 hm => by
          simp only [ob_cons, ob_nil, and_true, decide_eq_true_eq, hb, true_and]
          refine ⟨by omega, by omega, by omega, by omega, chk_of ⟨?_, Hsim.refl _⟩, by omega, by omega, by omega, by omega⟩
          rw [w64_in (x := 1 + pkV l b (p + 1) 3) (by omega) (by omega), ← hN]
          rfl
        by_cases c3 : pkV l b (p + 1 + 1 + 2 * (N : Int)) 30 = 0
        · refine ⟨v8 1000001 (caF l b (p + 1 + 1) N 1) (caF l b (p + 1 + 1) N 2) (caF l b (p + 1 + 1) N 3) (caF l b (p + 1 + 1) N 4) (caF l b (p + 1 + 1) N 5) (caF l b (p + 1 + 1) N 6) (caF l b (p + 1 + 1) N 7), p + 1 + 1 + 2 * (N : Int) + 1, by omega, fun c m tr tb hb hl h0 h1 hm => ⟨_, lam c m tr tb hb hl h0 h1 hm, ?_⟩⟩
          rw [treeCy]
          exact good_needs (ob1 m hb hl hm _ h0 (by omega)) (good_false (beq_eq_false_iff_ne.2 c0) (good_false (beq_eq_false_iff_ne.2 c1) (good_false (beq_eq_false_iff_ne.2 c2) (good_needs (ob2 c m tr tb hb hl h0 h1 hm) (good_true (beq_iff_eq.2 c3) (good_out ⟨rfl, Hsim.refl _⟩))))))
        · by_cases c4 : pkV l b (p + 1 + 1 + 2 * (N : Int)) 30 = 1
          · refine ⟨v8 (caF l b (p + 1 + 1) N 0) (caF l b (p + 1 + 1) N 1) (caF l b (p + 1 + 1) N 2) (caF l b (p + 1 + 1) N 3) (caF l b (p + 1 + 1) N 4) (caF l b (p + 1 + 1) N 5) (caF l b (p + 1 + 1) N 6) 1000000, p + 1 + 1 + 2 * (N : Int) + 1, by omega, fun c m tr tb hb hl h0 h1 hm => ⟨_, lam c m tr tb hb hl h0 h1 hm, ?_⟩⟩
            rw [treeCy]
            exact good_needs (ob1 m hb hl hm _ h0 (by omega)) (good_false (beq_eq_false_iff_ne.2 c0) (good_false (beq_eq_false_iff_ne.2 c1) (good_false (beq_eq_false_iff_ne.2 c2) (good_needs (ob2 c m tr tb hb hl h0 h1 hm) (good_false (beq_eq_false_iff_ne.2 c3) (good_true (beq_iff_eq.2 c4) (good_out ⟨rfl, Hsim.refl _⟩)))))))
          · refine ⟨caF l b (p + 1 + 1) N, p + 1 + 1 + 2 * (N : Int) + 1, by omega, fun c m tr tb hb hl h0 h1 hm => ⟨_, lam c m tr tb hb hl h0 h1 hm, ?_⟩⟩
            rw [treeCy]
            exact good_needs (ob1 m hb hl hm _ h0 (by omega)) (good_false (beq_eq_false_iff_ne.2 c0) (good_false (beq_eq_false_iff_ne.2 c1) (good_false (beq_eq_false_iff_ne.2 c2) (good_needs (ob2 c m tr tb hb hl h0 h1 hm) (good_false (beq_eq_false_iff_ne.2 c3) (good_false (beq_eq_false_iff_ne.2 c4) (good_out ⟨rfl, Hsim.refl _⟩)))))))

noncomputable def cyF (l : Nat) (b : Nat → Int) (p : Int) : Nat → Int := (cyc_ex l b p).choose
noncomputable def cyP (l : Nat) (b : Nat → Int) (p : Int) : Int := (cyc_ex l b p).choose_spec.choose
theorem cyP_in (l : Nat) (b : Nat → Int) (p : Int) : p ≤ cyP l b p ∧ cyP l b p ≤ p + 12 := (cyc_ex l b p).choose_spec.choose_spec.1
def FcyO (cf : Nat → (Nat → Int) → Int → Nat → Int) (cp : Nat → (Nat → Int) → Int → Int) : List AV → List AB → Option HR
  | [.ptr 0 0 0 0], [.cells [.sl 1 1 0 0 l c, .v (.int .i64 p)] tr, .row false m 1 g tb] => some { val := .agg (cyC (cf l (itB g) p)), out := [.cells [.sl 1 1 0 0 l c, .v (.int .i64 (cp l (itB g) p))] tr, .row false m 1 g tb], obl := [okB m g, decide (l ≤ m), decide (0 ≤ p), decide (p ≤ 2 ^ 29), decide (0 < m)] }
  | _, _ => none
theorem okB_it {m : Nat} {g : Nat → List Value} (h : okB m g = true) : okB m (rowB (itB g)) = true := List.all_eq_true.2 fun j hj => by
  have := List.all_eq_true.1 h j hj
  rwa [(okB_get h (by simpa using hj)).1] at this
theorem ok_cyc : SpecOk Try.prog 126 (specK [] (FcyO cyF cyP)) := by
  refine specK_ok gmCy_ok Try.func126 rfl fun avs H hr hF ho => ?_
  unfold FcyO at hF
  split at hF
  · rename_i l c p tr m g tb
    cases hF
    simp only [ob_cons, decide_eq_true_eq] at ho
    obtain ⟨h1, h2, h3, h4, h5, _⟩ := ho
    obtain ⟨Λ, e1, e2⟩ := (cyc_ex l (itB g) p).choose_spec.choose_spec.2 c m tr tb (okB_it h1) h2 h3 h4 h5
    refine ⟨hpRd l c p m (itB g) tr tb, Λ, 100, rd_sim h1, e1, ⟨res_mono (fun e vs He hq => ?_) e2.out⟩⟩
    exact ⟨hq.1, hq.2.trans' (rd_sim' h1)⟩
  · cases hF

end Go.Proofs.Ytmdcafhnjihckaa

/- l91Turn and l91Design: their trees. Conditions: those of pick. -/
namespace Go.Proofs.Ytmdcafhnjihckaa
open Go.RowKit
set_option maxRecDepth 100000

def gmPk (pk : Nat → (Nat → Int) → Int → Int → Int) : Gam := ext g0 70 (specK [] (FpkO pk))
noncomputable abbrev fDs : Func := Try.f107
def gmDs (pk : Nat → (Nat → Int) → Int → Int → Int) (cf : Nat → (Nat → Int) → Int → Nat → Int) (cp : Nat → (Nat → Int) → Int → Int) : Gam := ext (gmPk pk) 126 (specK [] (FcyO cf cp))
abbrev lvDs : Ex → List Nat := lv3 [0, 3, 4, 5] [0, 3] [2]
abbrev stDs (n : Nat) (i : Nat) : List AV := [.ptr 0 0 0 0, .own 2 i, .v (i64 n), .v (i64 i)]
abbrev hpDs (l : Nat) (c : Option Nat) (p : Int) (m : Nat) (b : Nat → Int) (tr tb : TypeId) (k : Nat) (h : Nat → Nat → Int) : List AB := [.cells [.sl 1 1 0 0 l c, .v (i64 p)] tr, .row false m 1 (rowB b) tb, .row true k 9 (row9 h) 46]
theorem rndDs (pk : Nat → (Nat → Int) → Int → Int → Int) (cf : Nat → (Nat → Int) → Int → Nat → Int) (cp : Nat → (Nat → Int) → Int → Int) (l : Nat) (c : Option Nat) (p : Int) (m : Nat) (b : Nat → Int) (tr tb : TypeId) (h : Nat → Nat → Int) (n : Nat) (i : Nat) : execC Try.prog (gmDs pk cf cp) 100 noLam (loopAt 0 fDs) (mkT 0 40 ((lvDs .normal).zip (stDs n i))) (hpDs l c p m b tr tb i h) (leafV 40 lvDs 2)
    = bif decide ((↑i : Int) < (↑n : Int)) then needs [okB m (rowB b), decide (l ≤ m), decide ((0 : Int) ≤ p), decide (p ≤ (1073741824 : Int)), decide ((0 : Nat) < m), okB m (rowB b), decide (l ≤ m), decide ((0 : Int) ≤ p + (1 : Int)), decide (p + (1 : Int) ≤ (536870912 : Int)), decide ((0 : Nat) < m), decide ((0 : Nat) < m), Nat.ble i i, Nat.ble (i + (1 : Nat)) (549755813888 : Nat)] (Res.out Ex.normal [AV.ptr (0 : Nat) (0 : Nat) (0 : Nat) (0 : Nat), AV.own (2 : Nat) (i + (1 : Nat)), AV.v (Value.int IntKind.i64 (↑n : Int)), AV.v (Value.int IntKind.i64 (IntKind.wrap IntKind.i64 ((↑i : Int) + (1 : Int))))] [AB.cells [AV.sl (1 : Nat) (1 : Nat) (0 : Nat) (0 : Nat) l c, AV.v (Value.int IntKind.i64 (cp l (itB (rowB b)) (p + (1 : Int))))] tr, AB.row false m (1 : Nat) (rowB b) tb, AB.row true (i + (1 : Nat)) (9 : Nat) (fun q ↦ [Value.int IntKind.i64 (bif Nat.blt q i then h q (0 : Nat) else IntKind.wrap IntKind.i64 (pk l (itB (rowB b)) p (13 : Int) - (6 : Int))), Value.int IntKind.i64 (bif Nat.blt q i then h q (1 : Nat) else cf l (itB (rowB b)) (p + (1 : Int)) (0 : Nat)), Value.int IntKind.i64 (bif Nat.blt q i then h q (2 : Nat) else cf l (itB (rowB b)) (p + (1 : Int)) (1 : Nat)), Value.int IntKind.i64 (bif Nat.blt q i then h q (3 : Nat) else cf l (itB (rowB b)) (p + (1 : Int)) (2 : Nat)), Value.int IntKind.i64 (bif Nat.blt q i then h q (4 : Nat) else cf l (itB (rowB b)) (p + (1 : Int)) (3 : Nat)), Value.int IntKind.i64 (bif Nat.blt q i then h q (5 : Nat) else cf l (itB (rowB b)) (p + (1 : Int)) (4 : Nat)), Value.int IntKind.i64 (bif Nat.blt q i then h q (6 : Nat) else cf l (itB (rowB b)) (p + (1 : Int)) (5 : Nat)), Value.int IntKind.i64 (bif Nat.blt q i then h q (7 : Nat) else cf l (itB (rowB b)) (p + (1 : Int)) (6 : Nat)), Value.int IntKind.i64 (bif Nat.blt q i then h q (8 : Nat) else cf l (itB (rowB b)) (p + (1 : Int)) (7 : Nat))]) (46 : Nat)]) else Res.out (Ex.exit (0 : Nat)) [AV.ptr (0 : Nat) (0 : Nat) (0 : Nat) (0 : Nat), AV.own (2 : Nat) i] [AB.cells [AV.sl (1 : Nat) (1 : Nat) (0 : Nat) (0 : Nat) l c, AV.v (Value.int IntKind.i64 p)] tr, AB.row false m (1 : Nat) (rowB b) tb, AB.row true i (9 : Nat) (row9 h) (46 : TypeId)] := by kernel_rfl

noncomputable abbrev lamDs (l : Nat) (c : Option Nat) (m : Nat) (b : Nat → Int) (tr tb : TypeId) (n : Nat) (p1 p2 : Int) (h : Nat → Nat → Int) : Nat → Option Sum := oneL 0 (atS 40 (lvDs .normal) 2 (stDs n 0) (hpDs l c p1 m b tr tb 0 (wfun [])) (fun K => K .normal (mkT 0 40 [(0, .ptr 0 0 0 0), (3, .own 2 n)]) (hpDs l c p2 m b tr tb n h)))
theorem treeDs (pk : Nat → (Nat → Int) → Int → Int → Int) (cf : Nat → (Nat → Int) → Int → Nat → Int) (cp : Nat → (Nat → Int) → Int → Int) (l : Nat) (c : Option Nat) (p : Int) (m : Nat) (b : Nat → Int) (tr tb : TypeId) (n : Nat) (p1 p2 : Int) (h : Nat → Nat → Int) : execF Try.prog (gmDs pk cf cp) (lamDs l c m b tr tb n p1 p2 h) 100 fDs [.ptr 0 0 0 0] (hpRd l c p m b tr tb) (packK 2)
    = needs [okB m (rowB b), decide (l ≤ m), decide ((0 : Int) ≤ p), decide (p ≤ (1073741824 : Int)), decide ((0 : Nat) < m), chk ([AV.ptr (0 : Nat) (0 : Nat) (0 : Nat) (0 : Nat), AV.own (2 : Nat) (0 : Nat), AV.v (Value.int IntKind.i64 (pk l (itB (rowB b)) p (4 : Int))), AV.v (Value.int IntKind.i64 (0 : Int))] = stDs n (0 : Nat) ∧ Hsim [AB.cells [AV.sl (1 : Nat) (1 : Nat) (0 : Nat) (0 : Nat) l c, AV.v (Value.int IntKind.i64 (p + (1 : Int)))] tr, AB.row false m (1 : Nat) (rowB b) tb, AB.row true (0 : Nat) (9 : Nat) (fun _ ↦ []) (46 : Nat)] (hpDs l c p1 m b tr tb (0 : Nat) (wfun []))), okB m (rowB b), decide (l ≤ m), decide ((0 : Int) ≤ p2), decide (p2 ≤ (1073741824 : Int)), decide ((0 : Nat) < m)] (bif pk l (itB (rowB b)) p2 (30 : Int) == (0 : Int) then needs [Nat.ble n n, Nat.ble (n + (1 : Nat)) (549755813888 : Nat)] (Res.out Ex.ret [AV.own (2 : Nat) (n + (1 : Nat))] [AB.cells [AV.sl (1 : Nat) (1 : Nat) (0 : Nat) (0 : Nat) l c, AV.v (Value.int IntKind.i64 (p2 + (1 : Int)))] tr, AB.row false m (1 : Nat) (rowB b) tb, AB.row true (n + (1 : Nat)) (9 : Nat) (fun q ↦ [Value.int IntKind.i64 (bif Nat.blt q n then h q (0 : Nat) else (1001 : Int)), Value.int IntKind.i64 (bif Nat.blt q n then h q (1 : Nat) else (0 : Int)), Value.int IntKind.i64 (bif Nat.blt q n then h q (2 : Nat) else (0 : Int)), Value.int IntKind.i64 (bif Nat.blt q n then h q (3 : Nat) else (0 : Int)), Value.int IntKind.i64 (bif Nat.blt q n then h q (4 : Nat) else (0 : Int)), Value.int IntKind.i64 (bif Nat.blt q n then h q (5 : Nat) else (0 : Int)), Value.int IntKind.i64 (bif Nat.blt q n then h q (6 : Nat) else (0 : Int)), Value.int IntKind.i64 (bif Nat.blt q n then h q (7 : Nat) else (0 : Int)), Value.int IntKind.i64 (bif Nat.blt q n then h q (8 : Nat) else (0 : Int))]) (46 : Nat)]) else bif pk l (itB (rowB b)) p2 (30 : Int) == (1 : Int) then needs [Nat.ble n n, Nat.ble (n + n) (549755813888 : Nat), Nat.ble n n, Nat.ble (n + n) (n + n), Nat.ble (n + n + (n + n)) (549755813888 : Nat), Nat.ble (n + n) (n + n)] (Res.out Ex.ret [AV.own (2 : Nat) (n + n + (n + n))] [AB.cells [AV.sl (1 : Nat) (1 : Nat) (0 : Nat) (0 : Nat) l c, AV.v (Value.int IntKind.i64 (p2 + (1 : Int)))] tr, AB.row false m (1 : Nat) (rowB b) tb, AB.row true (n + n + (n + n)) (9 : Nat) (fun q ↦ [Value.int IntKind.i64 (bif Nat.blt q (n + n) then bif Nat.blt q n then h q (0 : Nat) else h (q - n) (0 : Nat) else bif Nat.blt (q - (n + n)) n then h (q - (n + n)) (0 : Nat) else h (q - (n + n) - n) (0 : Nat)), Value.int IntKind.i64 (bif Nat.blt q (n + n) then bif Nat.blt q n then h q (1 : Nat) else h (q - n) (1 : Nat) else bif Nat.blt (q - (n + n)) n then h (q - (n + n)) (1 : Nat) else h (q - (n + n) - n) (1 : Nat)), Value.int IntKind.i64 (bif Nat.blt q (n + n) then bif Nat.blt q n then h q (2 : Nat) else h (q - n) (2 : Nat) else bif Nat.blt (q - (n + n)) n then h (q - (n + n)) (2 : Nat) else h (q - (n + n) - n) (2 : Nat)), Value.int IntKind.i64 (bif Nat.blt q (n + n) then bif Nat.blt q n then h q (3 : Nat) else h (q - n) (3 : Nat) else bif Nat.blt (q - (n + n)) n then h (q - (n + n)) (3 : Nat) else h (q - (n + n) - n) (3 : Nat)), Value.int IntKind.i64 (bif Nat.blt q (n + n) then bif Nat.blt q n then h q (4 : Nat) else h (q - n) (4 : Nat) else bif Nat.blt (q - (n + n)) n then h (q - (n + n)) (4 : Nat) else h (q - (n + n) - n) (4 : Nat)), Value.int IntKind.i64 (bif Nat.blt q (n + n) then bif Nat.blt q n then h q (5 : Nat) else h (q - n) (5 : Nat) else bif Nat.blt (q - (n + n)) n then h (q - (n + n)) (5 : Nat) else h (q - (n + n) - n) (5 : Nat)), Value.int IntKind.i64 (bif Nat.blt q (n + n) then bif Nat.blt q n then h q (6 : Nat) else h (q - n) (6 : Nat) else bif Nat.blt (q - (n + n)) n then h (q - (n + n)) (6 : Nat) else h (q - (n + n) - n) (6 : Nat)), Value.int IntKind.i64 (bif Nat.blt q (n + n) then bif Nat.blt q n then h q (7 : Nat) else h (q - n) (7 : Nat) else bif Nat.blt (q - (n + n)) n then h (q - (n + n)) (7 : Nat) else h (q - (n + n) - n) (7 : Nat)), Value.int IntKind.i64 (bif Nat.blt q (n + n) then bif Nat.blt q n then h q (8 : Nat) else h (q - n) (8 : Nat) else bif Nat.blt (q - (n + n)) n then h (q - (n + n)) (8 : Nat) else h (q - (n + n) - n) (8 : Nat))]) (46 : Nat)]) else Res.out Ex.ret [AV.own (2 : Nat) n] [AB.cells [AV.sl (1 : Nat) (1 : Nat) (0 : Nat) (0 : Nat) l c, AV.v (Value.int IntKind.i64 (p2 + (1 : Int)))] tr, AB.row false m (1 : Nat) (rowB b) tb, AB.row true n (9 : Nat) (row9 h) (46 : TypeId)]) := by kernel_rfl

end Go.Proofs.Ytmdcafhnjihckaa

/- l91Turn and l91Design: a number and a list of wheels, whatever the bytes are. Conditions: those of pick. -/
namespace Go.Proofs.Ytmdcafhnjihckaa
open Go.RowKit
set_option maxRecDepth 100000

theorem obP {l m : Nat} {b : Nat → Int} {M : Int} {x : Int} (hb : okB m (rowB b) = true) (hl : l ≤ m) (hm : 0 < m) (h0 : 0 ≤ x) (h1 : x ≤ M) : obls [okB m (rowB b), decide (l ≤ m), decide (0 ≤ x), decide (x ≤ M), decide (0 < m)] = true := by
  simp only [ob_cons, ob_nil, and_true, decide_eq_true_eq, hb, true_and]
  exact ⟨hl, h0, h1, hm⟩
def FtnO (tf tp : Nat → (Nat → Int) → Int → Int) : List AV → List AB → Option HR
  | [.ptr 0 0 0 0], [.cells [.sl 1 1 0 0 l c, .v (.int .i64 p)] tr, .row false m 1 g tb] => some { val := .v (.int .i64 (tf l (itB g) p)), out := [.cells [.sl 1 1 0 0 l c, .v (.int .i64 (tp l (itB g) p))] tr, .row false m 1 g tb], obl := [okB m g, decide (l ≤ m), decide (0 ≤ p), decide (p ≤ 2 ^ 29), decide (0 < m)] }
  | _, _ => none
def tnF (_ : Nat) (_ : Nat → Int) (_ : Int) : Int := 0
def tnP (_ : Nat) (_ : Nat → Int) (p : Int) : Int := p
theorem tnP_in (l : Nat) (b : Nat → Int) (p : Int) : p ≤ tnP l b p ∧ tnP l b p ≤ p + 2 := by unfold tnP; omega
/-- Where the reader is after some wheels, and these. -/
noncomputable def dsP (l : Nat) (b : Nat → Int) (p : Int) : Nat → Int
  | 0 => p
  | i + 1 => cyP l b (dsP l b p i + 1)
noncomputable def dsL (l : Nat) (b : Nat → Int) (p : Int) : Nat → List Wh
  | 0 => []
  | i + 1 => dsL l b p i ++ [⟨W (pkV l b (dsP l b p i) 13 - 6), cyOf (cyF l b (dsP l b p i + 1))⟩]
theorem dsP_in (l : Nat) (b : Nat → Int) (p : Int) : ∀ i : Nat, p ≤ dsP l b p i ∧ dsP l b p i ≤ p + 13 * (i : Int)
  | 0 => by show p ≤ p ∧ p ≤ p + 13 * ((0 : Nat) : Int); omega
  | i + 1 => by
    have ih := dsP_in l b p i
    have := cyP_in l b (dsP l b p i + 1)
    show p ≤ cyP l b (dsP l b p i + 1) ∧ cyP l b (dsP l b p i + 1) ≤ p + 13 * ((i + 1 : Nat) : Int)
    omega
theorem dsL_len (l : Nat) (b : Nat → Int) (p : Int) : ∀ i : Nat, (dsL l b p i).length = i
  | 0 => rfl
  | i + 1 => by
    show (dsL l b p i ++ [_]).length = i + 1
    rw [List.length_append, dsL_len l b p i]
    rfl
theorem gmDs_ok : GamOk Try.prog (gmDs pkV cyF cyP) := ext_ok (ext_ok g0_ok ok_pick) ok_cyc
theorem sumDs (l : Nat) (c : Option Nat) (p : Int) (m : Nat) (b : Nat → Int) (tr tb : TypeId) (N : Nat) (hN : N ≤ 3) (hb : okB m (rowB b) = true) (hl : l ≤ m) (h0 : 0 ≤ p) (h1 : p ≤ 2 ^ 28) (hm : 0 < m) :
    SumOk Try.prog 2 (.block 0 (.loop (loopAt 0 fDs))) (atS 40 (lvDs .normal) 2 (stDs N 0) (hpDs l c p m b tr tb 0 (wfun [])) (fun K => K .normal (mkT 0 40 [(0, .ptr 0 0 0 0), (3, .own 2 N)]) (hpDs l c (dsP l b p N) m b tr tb N (wfun (dsL l b p N))))) := by
  refine for_at gmDs_ok (n := 100) (m := 2) (lv := lvDs) (fun i => stDs N i) (fun i => hpDs l c (dsP l b p i) m b tr tb i (wfun (dsL l b p i))) (fun _ => True) N (fun _ => noLam) (lv3_ris rfl rfl rfl) (Nat.le_refl _) trivial fun K Q hk i _ hi => ⟨noLam_ok _ _ _, ?_⟩
  rw [rndDs]
  have hp := dsP_in l b p i
  refine good_cond (fun c1 => ?_) fun c1 => ?_
  · have c1 := of_decide_eq_true c1
    refine good_needs ?_ (good_out ⟨i + 1, ⟨rfl, by omega, trivial⟩, ?_, ?_⟩)
    · simp only [ob_cons, ob_nil, and_true, decide_eq_true_eq, Nat.ble_eq, hb, true_and]
      omega
    · rw [wr_in (x := (i : Int) + 1) (by omega)]
      rfl
    · refine .cons (ABeq.refl _) (.cons (ABeq.refl _) (.cons (ABeq.row fun q hq => ?_) .nil))
      exact ch_row (dsL l b p i) ⟨W (pkV l b (dsP l b p i) 13 - 6), cyOf (cyF l b (dsP l b p i + 1))⟩ i (dsL_len l b p i) q hq
  · have c1 := of_decide_eq_false c1
    have : i = N := by omega
    subst this
    refine good_out ⟨_, Hsim.refl _, ?_⟩
    rw [if_pos rfl]
    exact hk

theorem wfun_app (A B : List Wh) (q k : Nat) : wfun (A ++ B) q k = bif Nat.blt q A.length then wfun A q k else wfun B (q - A.length) k := by
  unfold wfun
  by_cases h : q < A.length
  · rw [List.getElem?_append_left h, blt_yes h]
    rfl
  · have hb : Nat.blt q A.length = false := by
      cases hb : Nat.blt q A.length with
      | false => rfl
      | true => rw [Nat.blt_eq] at hb; omega
    rw [List.getElem?_append_right (by omega), hb]
    rfl
theorem ds_ex (l : Nat) (b : Nat → Int) (p : Int) : ∃ (L : List Wh) (p' : Int), (p ≤ p' ∧ p' ≤ p + 64) ∧ L.length ≤ 12 ∧ ∀ (c : Option Nat) (m : Nat) (tr tb : TypeId), okB m (rowB b) = true → l ≤ m → 0 ≤ p → p ≤ 2 ^ 27 → 0 < m → ∃ Λ, (∀ cc, fDs.body = some cc → LamOk Try.prog 2 Λ cc) ∧
    GoodQ (execF Try.prog (gmDs pkV cyF cyP) Λ 100 fDs [.ptr 0 0 0 0] (hpRd l c p m b tr tb) (packK 2)) (fun _ vs He => vs = [.own 2 L.length] ∧ Hsim He (hpDs l c p' m b tr tb L.length (wfun L))) := by
  have n0 := pkV_nn l b p 4
  have n1 := pkV_lt l b p (n := 4) (by omega)
  obtain ⟨N, hN⟩ : ∃ N : Nat, (N : Int) = pkV l b p 4 := ⟨(pkV l b p 4).toNat, by omega⟩
  have hN3 : N ≤ 3 := by omega
  have hD := dsL_len l b (p + 1) N
  have hP := dsP_in l b (p + 1) N
  have lam : ∀ (c : Option Nat) (m : Nat) (tr tb : TypeId), okB m (rowB b) = true → l ≤ m → 0 ≤ p → p ≤ 2 ^ 27 → 0 < m → (∀ cc, fDs.body = some cc → LamOk Try.prog 2 (lamDs l c m b tr tb N (p + 1) (dsP l b (p + 1) N) (wfun (dsL l b (p + 1) N))) cc) :=
    fun c m tr tb hb hl h0 h1 hm => lam1 (by kernel_rfl) (sumDs l c (p + 1) m b tr tb N hN3 hb hl (by omega) (by omega) hm)
  have ob1 : ∀ (c : Option Nat) (m : Nat) (tr tb : TypeId), okB m (rowB b) = true → l ≤ m → 0 ≤ p → p ≤ 2 ^ 27 → 0 < m → obls [okB m (rowB b), decide (l ≤ m), decide (0 ≤ p), decide (p ≤ 1073741824), decide (0 < m), chk ([AV.ptr 0 0 0 0, AV.own 2 0, AV.v (i64 (pkV l b p 4)), AV.v (i64 0)] = stDs N 0 ∧ Hsim [AB.cells [AV.sl 1 1 0 0 l c, AV.v (i64 (p + 1))] tr, AB.row false m 1 (rowB b) tb, AB.row true 0 9 (fun _ => []) 46] (hpDs l c (p + 1) m b tr tb 0 (wfun []))), okB m (rowB b), decide (l ≤ m), decide (0 ≤ dsP l b (p + 1) N), decide (dsP l b (p + 1) N ≤ 1073741824), decide (0 < m)] = true := fun c m tr tb hb hl h0 h1 hm => by
    simp only [ob_cons, ob_nil, and_true, decide_eq_true_eq, hb, true_and]
    refine ⟨by omega, by omega, by omega, by omega, chk_of ⟨?_, .cons (ABeq.refl _) (.cons (ABeq.refl _) (.cons (ABeq.row fun j hj => absurd hj (Nat.not_lt_zero _)) .nil))⟩, by omega, by omega, by omega, by omega⟩
    rw [← hN]
    rfl
  by_cases c0 : pkV l b (dsP l b (p + 1) N) 30 = 0
  · refine ⟨dsL l b (p + 1) N ++ [⟨1001, cyZ⟩], dsP l b (p + 1) N + 1, by omega, by rw [List.length_append, hD]; show N + 1 ≤ 12; omega, fun c m tr tb hb hl h0 h1 hm => ⟨_, lam c m tr tb hb hl h0 h1 hm, ?_⟩⟩
    rw [treeDs]
    refine good_needs (ob1 c m tr tb hb hl h0 h1 hm) (good_true (beq_iff_eq.2 c0) (good_needs ?_ (good_out ⟨?_, ?_⟩)))
    · simp only [ob_cons, ob_nil, and_true, Nat.ble_eq]
      omega
    · rw [List.length_append, hD]; rfl
    · rw [show (dsL l b (p + 1) N ++ [(⟨1001, cyZ⟩ : Wh)]).length = N + 1 by rw [List.length_append, hD]; rfl]
      exact .cons (ABeq.refl _) (.cons (ABeq.refl _) (.cons (ABeq.row fun q hq => ch_row (dsL l b (p + 1) N) ⟨1001, cyZ⟩ N hD q hq) .nil))
  · by_cases c1 : pkV l b (dsP l b (p + 1) N) 30 = 1
    · generalize hDD : dsL l b (p + 1) N = D at hD lam ob1
      have hD2 : (D ++ D).length = N + N := by rw [List.length_append, hD]
      have hD4 : ((D ++ D) ++ (D ++ D)).length = N + N + (N + N) := by rw [List.length_append, hD2]
      refine ⟨(D ++ D) ++ (D ++ D), dsP l b (p + 1) N + 1, by omega, by rw [hD4]; omega, fun c m tr tb hb hl h0 h1 hm => ⟨_, lam c m tr tb hb hl h0 h1 hm, ?_⟩⟩
      rw [treeDs]
      refine good_needs (ob1 c m tr tb hb hl h0 h1 hm) (good_false (beq_eq_false_iff_ne.2 c0) (good_true (beq_iff_eq.2 c1) (good_needs ?_ (good_out ⟨?_, ?_⟩))))
      · simp only [ob_cons, ob_nil, and_true, Nat.ble_eq]
        omega
      · rw [hD4]
      · rw [hD4]
        refine .cons (ABeq.refl _) (.cons (ABeq.refl _) (.cons (ABeq.row fun q hq => ?_) .nil))
        have hk : ∀ k, wfun ((D ++ D) ++ (D ++ D)) q k = bif Nat.blt q (N + N) then bif Nat.blt q N then wfun D q k else wfun D (q - N) k else bif Nat.blt (q - (N + N)) N then wfun D (q - (N + N)) k else wfun D (q - (N + N) - N) k := fun k => by
          rw [wfun_app, hD2, wfun_app, wfun_app, hD]
        unfold row9
        rw [hk 0, hk 1, hk 2, hk 3, hk 4, hk 5, hk 6, hk 7, hk 8]
    · refine ⟨dsL l b (p + 1) N, dsP l b (p + 1) N + 1, by omega, by rw [hD]; omega, fun c m tr tb hb hl h0 h1 hm => ⟨_, lam c m tr tb hb hl h0 h1 hm, ?_⟩⟩
      rw [treeDs]
      refine good_needs (ob1 c m tr tb hb hl h0 h1 hm) (good_false (beq_eq_false_iff_ne.2 c0) (good_false (beq_eq_false_iff_ne.2 c1) (good_out ⟨?_, ?_⟩)))
      · rw [hD]
      · rw [hD]
        exact Hsim.refl _
noncomputable def dgL (l : Nat) (b : Nat → Int) (p : Int) : List Wh := (ds_ex l b p).choose
noncomputable def dgP (l : Nat) (b : Nat → Int) (p : Int) : Int := (ds_ex l b p).choose_spec.choose
theorem dgP_in (l : Nat) (b : Nat → Int) (p : Int) : p ≤ dgP l b p ∧ dgP l b p ≤ p + 64 := (ds_ex l b p).choose_spec.choose_spec.1
theorem dgL_len (l : Nat) (b : Nat → Int) (p : Int) : (dgL l b p).length ≤ 12 := (ds_ex l b p).choose_spec.choose_spec.2.1
def FdgO (dl : Nat → (Nat → Int) → Int → List Wh) (dp : Nat → (Nat → Int) → Int → Int) : List AV → List AB → Option HR
  | [.ptr 0 0 0 0], [.cells [.sl 1 1 0 0 l c, .v (.int .i64 p)] tr, .row false m 1 g tb] => some { val := .own 2 (dl l (itB g) p).length, out := [.cells [.sl 1 1 0 0 l c, .v (.int .i64 (dp l (itB g) p))] tr, .row false m 1 g tb], new := [.row true (dl l (itB g) p).length 9 (row9 (wfun (dl l (itB g) p))) 46], obl := [okB m g, decide (l ≤ m), decide (0 ≤ p), decide (p ≤ 2 ^ 27), decide (0 < m)] }
  | _, _ => none
theorem ok_design : SpecOk Try.prog 107 (specK [] (FdgO dgL dgP)) := by
  refine specK_ok gmDs_ok Try.func107 rfl fun avs H hr hF ho => ?_
  unfold FdgO at hF
  split at hF
  · rename_i l c p tr m g tb
    cases hF
    simp only [ob_cons, decide_eq_true_eq] at ho
    obtain ⟨h1, h2, h3, h4, h5, _⟩ := ho
    obtain ⟨Λ, e1, e2⟩ := (ds_ex l (itB g) p).choose_spec.choose_spec.2.2 c m tr tb (okB_it h1) h2 h3 h4 h5
    refine ⟨hpRd l c p m (itB g) tr tb, Λ, 100, rd_sim h1, e1, ⟨res_mono (fun e vs He hq => ?_) e2.out⟩⟩
    refine ⟨hq.1, hq.2.trans' (.cons (ABeq.refl _) (.cons (ABeq.row fun j hj => (okB_get h1 hj).1.symm) (Hsim.refl _)))⟩
  · cases hF

end Go.Proofs.Ytmdcafhnjihckaa

/- What is drawn from bytes: the word of a drawing function. Conditions: bytes, at most 2^21. -/
namespace Go.Proofs.Ytmdcafhnjihckaa
open Go.RowKit
set_option maxRecDepth 100000

def md_co : List Md := [.rd 1 5]
def FdrO (R : Nat → (Nat → Int) → FR) : List SA → Option FR
  | [.row m g] => some { val := (R m (itB g)).val, new := (R m (itB g)).new, obl := [okB m g, decide (m ≤ 2 ^ 21)] }
  | _ => none
theorem draw_ok {f : FuncId} {fn : Func} {R : Nat → (Nat → Int) → FR} (hf : Try.prog.funcs[f]? = some fn) (hb : fn.body.isSome = true)
    (h1 : ∀ (m : Nat) (b : Nat → Int), 0 < m → m ≤ 2 ^ 21 → okB m (rowB b) = true → ∃ Γ, GamOk Try.prog Γ ∧ GoodQ (execF Try.prog Γ noLam 100 fn [.sl 0 1 0 0 m none] [.row false m 1 (rowB b) 5] (packK 1)) (GivR [.row false m 1 (rowB b) 5] (R m b)))
    (h0 : ∀ (q : Option Addr) (c : Nat) (g : Nat → List Value) (b : Nat → Int), ∃ Γ, GamOk Try.prog Γ ∧ GoodQ (execF Try.prog Γ noLam 100 fn [.v (.slice q 0 c)] [.row false 0 1 g 5] (packK 1)) (GivR [.row false 0 1 g 5] (R 0 b))) : SpecOk Try.prog f (specR md_co (FdrO R)) := by
  refine specR_calls enters hf hb fun sas fr hF ho => ?_
  unfold FdrO at hF
  split at hF
  · rename_i m g
    cases hF
    simp only [ob_cons, decide_eq_true_eq] at ho
    obtain ⟨e1, e2, _⟩ := ho
    by_cases hm : m = 0
    · subst hm
      refine ⟨[.row false 0 1 g 5], Hsim.refl _, fun M vals w ν hM hv hH hdom => ?_⟩
      have hv0 : VRs ν [.sl 0 1 0 0 0 none] vals := hv
      cases vals with
      | nil => simp only [VRs] at hv0
      | cons v vs =>
        cases vs with
        | cons => simp only [VRs] at hv0; exact hv0.2.elim
        | nil =>
          simp only [VRs, VR] at hv0
          obtain ⟨⟨q, c, rfl, _⟩, _⟩ := hv0
          obtain ⟨Γ, g1, g2⟩ := h0 q c g (itB g)
          have hv2 : VRs ν [.v (.slice q 0 c)] [.slice q 0 c] := by simp only [VRs, VR]; exact ⟨trivial, trivial⟩
          exact calls_pack g1 mixed enters hf (noLam' _) hM g2.out hv2 hH hdom
    · obtain ⟨Γ, g1, g2⟩ := h1 m (itB g) (by omega) e2 (okB_it e1)
      refine ⟨[.row false m 1 (rowB (itB g)) 5], .cons (ABeq.row fun j hj => (okB_get e1 hj).1) .nil, fun M vals w ν hM hv hH hdom => ?_⟩
      have g3 : GoodQ (execF Try.prog Γ noLam 100 fn [.sl 0 1 0 0 m none] [.row false m 1 (rowB (itB g)) 5] (packK 1)) (GivR (abP md_co [.row m g] []) { val := (R m (itB g)).val, new := (R m (itB g)).new, obl := [okB m g, decide (m ≤ 2 ^ 21)] }) :=
        ⟨res_mono (fun e vs He ⟨av, q1, q2, q3⟩ => ⟨av, q1, q2, q3.trans' (.cons (ABeq.row fun j hj => (okB_get e1 hj).1.symm) (Hsim.refl _))⟩) g2.out⟩
      exact calls_pack g1 mixed enters hf (noLam' _) hM g3.out hv hH hdom
  · cases hF

def gmDr (_ _ : Nat → (Nat → Int) → Int → Int) (dl : Nat → (Nat → Int) → Int → List Wh) (dp : Nat → (Nat → Int) → Int → Int) (pk : Nat → (Nat → Int) → Int → Int → Int) : Gam := ext (gmPk pk) 107 (specK [] (FdgO dl dp))
theorem gmDr_ok : GamOk Try.prog (gmDr tnF tnP dgL dgP pkV) := ext_ok (ext_ok g0_ok ok_pick) ok_design
/-- How many bytes are read. -/
def lnB (m : Nat) : Nat := if 2000 < m then 2000 else m
theorem lnB_le (m : Nat) : lnB m ≤ m := by unfold lnB; split <;> omega
/-- The design of no bytes. -/
def noneL : List Wh := [⟨1001, cyZ⟩]

end Go.Proofs.Ytmdcafhnjihckaa

/- What is drawn: lists of wheels, and numbers. No conditions. -/
namespace Go.Proofs.Ytmdcafhnjihckaa
open Go.RowKit
set_option maxRecDepth 100000

/-- A design, drawn from bytes. -/
noncomputable def bDesign (m : Nat) (b : Nat → Int) : List Wh := if m = 0 then noneL else dgL (lnB m) b 0
/-- A design and a turn. -/
noncomputable def bLater (m : Nat) (b : Nat → Int) : List Wh × Int := if m = 0 then (noneL, -1) else (dgL (lnB m) b 0, tnF (lnB m) b (dgP (lnB m) b 0))
/-- Two designs. -/
noncomputable def bTwo (m : Nat) (b : Nat → Int) : List Wh × List Wh := if m = 0 then (noneL, noneL) else (dgL (lnB m) b 0, dgL (lnB m) b (dgP (lnB m) b 0))
theorem bDesign_len (m : Nat) (b : Nat → Int) : (bDesign m b).length ≤ 12 := by
  unfold bDesign
  split
  · show 1 ≤ 12; omega
  · exact dgL_len _ _ _
theorem bLater_len (m : Nat) (b : Nat → Int) : (bLater m b).1.length ≤ 12 := by
  unfold bLater
  split
  · show 1 ≤ 12; omega
  · exact dgL_len _ _ _
theorem bTwo_len (m : Nat) (b : Nat → Int) : (bTwo m b).1.length ≤ 12 ∧ (bTwo m b).2.length ≤ 12 := by
  unfold bTwo
  split
  · show 1 ≤ 12 ∧ 1 ≤ 12; omega
  · exact ⟨dgL_len _ _ _, dgL_len _ _ _⟩
def rowL (L : List Wh) : AB := .row true L.length 9 (row9 (wfun L)) 46
def frL (L : List Wh) : FR := { val := .own 0 L.length, new := [rowL L] }
def frLN (L : List Wh) (x : Int) : FR := { val := .tup [.own 0 L.length, .v (.int .i64 x)], new := [rowL L] }
def frLL (L M : List Wh) : FR := { val := .tup [.own 0 L.length, .own 1 M.length], new := [rowL L, rowL M] }
theorem none_row (j : Nat) (hj : j < 1) : [Value.int .i64 1001, .int .i64 0, .int .i64 0, .int .i64 0, .int .i64 0, .int .i64 0, .int .i64 0, .int .i64 0, .int .i64 0] = row9 (wfun noneL) j := by
  have : j = 0 := by omega
  subst this
  rfl
/-- Where the code is longer than 2000 bytes, it is cut. -/
theorem ln_cut {m : Nat} (h : (m : Int) > 2000) : lnB m = 2000 := by unfold lnB; rw [if_pos (by omega)]
theorem ln_all {m : Nat} (h : ¬ (m : Int) > 2000) : lnB m = m := by unfold lnB; rw [if_neg (by omega)]
/-- The tree of a drawing function: cut or not. -/
theorem good_ln {m : Nat} {Q : Ex → List AV → List AB → Prop} {ob1 ob2 : List Bool} {r1 r2 : Res}
    (h1 : lnB m = 2000 → (m : Int) > 2000 → obls ob1 = true ∧ GoodQ r1 Q) (h2 : lnB m = m → (m : Int) ≤ 2000 → obls ob2 = true ∧ GoodQ r2 Q) : GoodQ (bif decide ((m : Int) > 2000) then needs ob1 r1 else needs ob2 r2) Q := by
  refine good_cond (fun c => ?_) fun c => ?_
  · have c := of_decide_eq_true c
    exact good_needs (h1 (ln_cut c) c).1 (h1 (ln_cut c) c).2
  · have c := of_decide_eq_false c
    exact good_needs (h2 (ln_all c) (by omega)).1 (h2 (ln_all c) (by omega)).2

end Go.Proofs.Ytmdcafhnjihckaa

/- Changed designs as a list or none, read as one. Conditions: a list of wheels. -/
namespace Go.Proofs.Ytmdcafhnjihckaa
open Go.RowKit
set_option maxRecDepth 100000

def FeqB (eq : List Wh → List Wh → Bool) : List SA → Option FR
  | [.row m g, .row n g2] => some { val := .v (.bool (eq (listW (itW g) m) (listW (itW g2) n))), obl := [allW m g, allW n g2, decide (m ≤ 2 ^ 38)] }
  | _ => none
def UO1 (yes : Int → List Wh → Bool) (tl : Int → List Wh → List Wh) : List SA → Option UR
  | [.row m g, .v (.int .i64 x)] => some ⟨yes x (listW (itW g) m), tl x (listW (itW g) m), [allW m g, decide (m ≤ 2 ^ 38)]⟩
  | _ => none
def eqL (A B : List Wh) : Bool := decide (A = B)
theorem eqL_comm (A B : List Wh) : eqL A B = eqL B A := by
  unfold eqL
  rw [Bool.eq_iff_iff, decide_eq_true_eq, decide_eq_true_eq]
  exact ⟨Eq.symm, Eq.symm⟩
def badE (f h : Nat → Nat → Int) (i : Nat) : Bool := !decide (whOf (f i) = whOf (h i))
theorem eqL_list (f h : Nat → Nat → Int) (m : Nat) : eqL (listW f m) (listW h m) = noneTo (badE f h) m := by
  rw [Bool.eq_iff_iff, noneTo_iff, eqL, decide_eq_true_eq]
  refine ⟨fun e i hi => ?_, fun e => ?_⟩
  · have h1 := listW_get f hi
    rw [e, listW_get h hi, Option.some.injEq] at h1
    simp [badE, h1]
  · exact List.map_congr_left fun i hi => by
      have := e i (by simpa using hi)
      simpa [badE] using this
theorem eqL_len {A B : List Wh} (h : A.length ≠ B.length) : eqL A B = false := decide_eq_false fun e => h (by rw [e])
def yT (x : Int) (L : List Wh) : Bool := eachOk 1 x 0 false L
def tT (x : Int) (L : List Wh) : List Wh := eachL 1 x 0 false L
theorem ok_UTu : SpecOk Try.prog 42 (specU md_wv (UO1 yT tT)) := by
  refine specU_ok rfl ok_deYTu ok_deNTu fun sas u hu ho => ?_
  unfold UO1 at hu
  split at hu
  · rename_i m g x
    cases hu
    simp only [ob_cons] at ho
    obtain ⟨h1, h2, _⟩ := ho
    refine ⟨rfl, ?_⟩
    have hM : inR x 0 23 = true → okD (listW (itW g) m) = true → (listW (itW g) m).map (chE 1 x 0 false) = mpTu x (listW (itW g) m) := fun hx hd => (map_same fun w hw => (chTu_same hx (okD_mem hd hw).1).symm)
    cases hv : yesTu x (listW (itW g) m) with
    | true =>
      left
      have hv2 := hv
      rw [yesTu, Bool.and_eq_true, Bool.and_eq_true] at hv2
      obtain ⟨hx, hd, ht⟩ := hv2
      obtain ⟨hE, hO⟩ := each_yes (sp := 1) (tn := x) (la := 0) (mir := false) (by rw [eachP, hd, hx]; rfl) (hM hx hd) ht
      refine ⟨hO, [allW m g, decide (m ≤ 2 ^ 38), yesTu x (listW (itW g) m)], ?_, ?_⟩
      · show FdeYTu yesTu tidyL mpTu [.row m g, .v (.int .i64 x)] = some { val := valY (tT x (listW (itW g) m)), new := newY (tT x (listW (itW g) m)), obl := [allW m g, decide (m ≤ 2 ^ 38), yesTu x (listW (itW g) m)] }
        rw [show tT x (listW (itW g) m) = tidyL (mpTu x (listW (itW g) m)) from hE]
        rfl
      · simp only [ob_cons, ob_nil, and_true]
        exact ⟨h1, h2, hv⟩
    | false =>
      right
      obtain ⟨hE, hO⟩ := each_no (sp := 1) (tn := x) (la := 0) (mir := false) (L := listW (itW g) m) fun hp => by
        rw [eachP, Bool.and_eq_true, Bool.and_eq_true] at hp
        rw [hM (hp.2.1) hp.1]
        rw [yesTu, hp.2.1, hp.1, Bool.true_and, Bool.true_and] at hv
        exact hv
      refine ⟨hO, hE, [allW m g, decide (m ≤ 2 ^ 38), !yesTu x (listW (itW g) m)], rfl, ?_⟩
      simp only [ob_cons, ob_nil, and_true]
      exact ⟨h1, h2, by rw [hv]; rfl⟩
  · cases hu
def yL (x : Int) (L : List Wh) : Bool := eachOk 1 0 x false L
def tL (x : Int) (L : List Wh) : List Wh := eachL 1 0 x false L
theorem ok_ULa : SpecOk Try.prog 41 (specU md_wv (UO1 yL tL)) := by
  refine specU_ok rfl ok_deYLa ok_deNLa fun sas u hu ho => ?_
  unfold UO1 at hu
  split at hu
  · rename_i m g x
    cases hu
    simp only [ob_cons] at ho
    obtain ⟨h1, h2, _⟩ := ho
    refine ⟨rfl, ?_⟩
    have hM : inR x 0 23 = true → okD (listW (itW g) m) = true → (listW (itW g) m).map (chE 1 0 x false) = mpLa x (listW (itW g) m) := fun hx hd => (map_same fun w hw => (chLa_same hx (okD_mem hd hw).1).symm)
    cases hv : yesLa x (listW (itW g) m) with
    | true =>
      left
      have hv2 := hv
      rw [yesLa, Bool.and_eq_true, Bool.and_eq_true] at hv2
      obtain ⟨hx, hd, ht⟩ := hv2
      obtain ⟨hE, hO⟩ := each_yes (sp := 1) (tn := 0) (la := x) (mir := false) (by rw [eachP, hd, hx]; rfl) (hM hx hd) ht
      refine ⟨hO, [allW m g, decide (m ≤ 2 ^ 38), yesLa x (listW (itW g) m)], ?_, ?_⟩
      · show FdeYLa yesLa tidyL mpLa [.row m g, .v (.int .i64 x)] = some { val := valY (tL x (listW (itW g) m)), new := newY (tL x (listW (itW g) m)), obl := [allW m g, decide (m ≤ 2 ^ 38), yesLa x (listW (itW g) m)] }
        rw [show tL x (listW (itW g) m) = tidyL (mpLa x (listW (itW g) m)) from hE]
        rfl
      · simp only [ob_cons, ob_nil, and_true]
        exact ⟨h1, h2, hv⟩
    | false =>
      right
      obtain ⟨hE, hO⟩ := each_no (sp := 1) (tn := 0) (la := x) (mir := false) (L := listW (itW g) m) fun hp => by
        rw [eachP, Bool.and_eq_true, Bool.and_eq_true] at hp
        rw [hM (hp.2.2) hp.1]
        rw [yesLa, hp.2.2, hp.1, Bool.true_and, Bool.true_and] at hv
        exact hv
      refine ⟨hO, hE, [allW m g, decide (m ≤ 2 ^ 38), !yesLa x (listW (itW g) m)], rfl, ?_⟩
      simp only [ob_cons, ob_nil, and_true]
      exact ⟨h1, h2, by rw [hv]; rfl⟩
  · cases hu

end Go.Proofs.Ytmdcafhnjihckaa

/- The program's DesignTidy, DesignBack, DesignMirror, as a list or none, read as one. Conditions: a list of wheels. -/
namespace Go.Proofs.Ytmdcafhnjihckaa
open Go.RowKit
set_option maxRecDepth 100000

def UO0 (yes : List Wh → Bool) (tl : List Wh → List Wh) : List SA → Option UR
  | [.row m g] => some ⟨yes (listW (itW g) m), tl (listW (itW g) m), [allW m g, decide (m ≤ 2 ^ 38)]⟩
  | _ => none
theorem mpTi_self (L : List Wh) : mpTi L = L := by
  show L.map chTi = L
  rw [show chTi = id from rfl, List.map_id]
def yI (L : List Wh) : Bool := okD L && okT L
def tI (L : List Wh) : List Wh := bif yI L then tidyL L else []
theorem ok_UTi : SpecOk Try.prog 37 (specU md_ws (UO0 yI tI)) := by
  refine specU_ok rfl ok_deYTi ok_deNTi fun sas u hu ho => ?_
  unfold UO0 at hu
  split at hu
  · rename_i m g
    cases hu
    simp only [ob_cons] at ho
    obtain ⟨h1, h2, _⟩ := ho
    refine ⟨rfl, ?_⟩
    have hy : yesTi (listW (itW g) m) = yI (listW (itW g) m) := by
      unfold yesTi yI
      rw [show (listW (itW g) m).map chTi = listW (itW g) m from mpTi_self _]
    cases hv : yI (listW (itW g) m) with
    | true =>
      left
      refine ⟨rfl, [allW m g, decide (m ≤ 2 ^ 38), yesTi (listW (itW g) m)], ?_, ?_⟩
      · show FdeYTi yesTi tidyL mpTi [.row m g] = some { val := valY (tI (listW (itW g) m)), new := newY (tI (listW (itW g) m)), obl := [allW m g, decide (m ≤ 2 ^ 38), yesTi (listW (itW g) m)] }
        rw [tI, hv, cond_true]
        show some _ = some _
        rw [mpTi_self]
      · simp only [ob_cons, ob_nil, and_true]
        exact ⟨h1, h2, hy.trans hv⟩
    | false =>
      right
      refine ⟨rfl, by show tI (listW (itW g) m) = []; rw [tI, hv]; rfl, [allW m g, decide (m ≤ 2 ^ 38), !yesTi (listW (itW g) m)], rfl, ?_⟩
      simp only [ob_cons, ob_nil, and_true]
      exact ⟨h1, h2, by rw [hy, hv]; rfl⟩
  · cases hu
theorem chBa_same {w : Wh} : chBa w = chE (-1) 0 0 false w := by
  have e1 : (-1 : Int) * w.s = 0 - w.s := by omega
  have e2 : (IntKind.wrap IntKind.i64 ((0 : Int) + IntKind.wrap IntKind.i64 (0 * w.s)) % 24).toNat = 0 := by rw [Int.zero_mul]; rfl
  rw [chBa, chE, e1, e2]
  rfl
def yB (L : List Wh) : Bool := eachOk (-1) 0 0 false L
def tB (L : List Wh) : List Wh := eachL (-1) 0 0 false L
theorem ok_UBa : SpecOk Try.prog 47 (specU md_ws (UO0 yB tB)) := by
  refine specU_ok rfl ok_deYBa ok_deNBa fun sas u hu ho => ?_
  unfold UO0 at hu
  split at hu
  · rename_i m g
    cases hu
    simp only [ob_cons] at ho
    obtain ⟨h1, h2, _⟩ := ho
    refine ⟨rfl, ?_⟩
    have hM : (listW (itW g) m).map (chE (-1) 0 0 false) = mpBa (listW (itW g) m) := map_same fun w _ => chBa_same.symm
    cases hv : yesBa (listW (itW g) m) with
    | true =>
      left
      have hv2 := hv
      rw [yesBa, Bool.and_eq_true] at hv2
      obtain ⟨hE, hO⟩ := each_yes (sp := -1) (tn := 0) (la := 0) (mir := false) (by rw [eachP, hv2.1]; rfl) hM hv2.2
      refine ⟨hO, [allW m g, decide (m ≤ 2 ^ 38), yesBa (listW (itW g) m)], ?_, ?_⟩
      · show FdeYBa yesBa tidyL mpBa [.row m g] = some { val := valY (tB (listW (itW g) m)), new := newY (tB (listW (itW g) m)), obl := [allW m g, decide (m ≤ 2 ^ 38), yesBa (listW (itW g) m)] }
        rw [show tB (listW (itW g) m) = tidyL (mpBa (listW (itW g) m)) from hE]
        rfl
      · simp only [ob_cons, ob_nil, and_true]
        exact ⟨h1, h2, hv⟩
    | false =>
      right
      obtain ⟨hE, hO⟩ := each_no (sp := -1) (tn := 0) (la := 0) (mir := false) (L := listW (itW g) m) fun hp => by
        rw [eachP, Bool.and_eq_true] at hp
        rw [hM]
        rw [yesBa, hp.1, Bool.true_and] at hv
        exact hv
      refine ⟨hO, hE, [allW m g, decide (m ≤ 2 ^ 38), !yesBa (listW (itW g) m)], rfl, ?_⟩
      simp only [ob_cons, ob_nil, and_true]
      exact ⟨h1, h2, by rw [hv]; rfl⟩
  · cases hu
def yM (L : List Wh) : Bool := eachOk (-1) 0 0 true L
def tM (L : List Wh) : List Wh := eachL (-1) 0 0 true L
theorem ok_UMi : SpecOk Try.prog 46 (specU md_ws (UO0 yM tM)) := by
  refine specU_ok rfl ok_deYMi ok_deNMi fun sas u hu ho => ?_
  unfold UO0 at hu
  split at hu
  · rename_i m g
    cases hu
    simp only [ob_cons] at ho
    obtain ⟨h1, h2, _⟩ := ho
    refine ⟨rfl, ?_⟩
    have hM : (listW (itW g) m).map (chE (-1) 0 0 true) = mpMi (listW (itW g) m) := map_same fun w _ => (chMi_same w).symm
    cases hv : yesMi (listW (itW g) m) with
    | true =>
      left
      have hv2 := hv
      rw [yesMi, Bool.and_eq_true] at hv2
      obtain ⟨hE, hO⟩ := each_yes (sp := -1) (tn := 0) (la := 0) (mir := true) (by rw [eachP, hv2.1]; rfl) hM hv2.2
      refine ⟨hO, [allW m g, decide (m ≤ 2 ^ 38), yesMi (listW (itW g) m)], ?_, ?_⟩
      · show FdeYMi yesMi tidyL mpMi [.row m g] = some { val := valY (tM (listW (itW g) m)), new := newY (tM (listW (itW g) m)), obl := [allW m g, decide (m ≤ 2 ^ 38), yesMi (listW (itW g) m)] }
        rw [show tM (listW (itW g) m) = tidyL (mpMi (listW (itW g) m)) from hE]
        rfl
      · simp only [ob_cons, ob_nil, and_true]
        exact ⟨h1, h2, hv⟩
    | false =>
      right
      obtain ⟨hE, hO⟩ := each_no (sp := -1) (tn := 0) (la := 0) (mir := true) (L := listW (itW g) m) fun hp => by
        rw [eachP, Bool.and_eq_true] at hp
        rw [hM]
        rw [yesMi, hp.1, Bool.true_and] at hv
        exact hv
      refine ⟨hO, hE, [allW m g, decide (m ≤ 2 ^ 38), !yesMi (listW (itW g) m)], rfl, ?_⟩
      simp only [ob_cons, ob_nil, and_true]
      exact ⟨h1, h2, by rw [hv]; rfl⟩
  · cases hu

end Go.Proofs.Ytmdcafhnjihckaa

/- The reference's DesignTidy: its word. Conditions: a list of wheels. -/
namespace Go.Proofs.Ytmdcafhnjihckaa
open Go.RowKit
set_option maxRecDepth 100000

def gmZ1 (okd : List Wh → Bool) (ti : List Wh → List Wh) (okt : List Wh → Bool) : Gam := ext (ext g0 61 (specR md_ws (FdvO okd))) 62 (specR md_ws (FtidyO ti okt))
theorem gmZ1_ok : GamOk Try.prog (gmZ1 okD tidyL okT) := by
  unfold gmZ1
  rw [FtidyO_eq, FdvO_eq]
  exact ext_ok (ext_ok g0_ok ok_dv) ok_tidyS
theorem treeTiS (okd : List Wh → Bool) (ti : List Wh → List Wh) (okt : List Wh → Bool) (m : Nat) (f : Nat → Nat → Int) : execF Try.prog (gmZ1 okd ti okt) noLam 100 Try.f73 [.sl 0 9 0 0 m none] [.row false m 9 (row9 f) 46] (packK 1)
    = needs [Nat.ble ((0 : Nat) + m) m, allW m fun q ↦ row9 f ((0 : Nat) + q), decide (m ≤ (549755813888 : Nat))] (bif !okd (listW (itW fun q ↦ row9 f ((0 : Nat) + q)) m) then Res.out Ex.ret [AV.tup [AV.own (1 : Nat) (0 : Nat), AV.v (Value.bool false)]] [AB.row false m (9 : Nat) (row9 f) (46 : TypeId), AB.row true (0 : Nat) (9 : Nat) (fun _ ↦ []) (46 : Nat)] else needs [Nat.ble ((0 : Nat) + m) m, allW m fun q ↦ row9 f ((0 : Nat) + q), decide (m ≤ (274877906944 : Nat))] (Res.out Ex.ret [AV.tup [AV.own (1 : Nat) (List.length (ti (listW (itW fun q ↦ row9 f ((0 : Nat) + q)) m))), AV.v (Value.bool (okt (listW (itW fun q ↦ row9 f ((0 : Nat) + q)) m)))]] [AB.row false m (9 : Nat) (row9 f) (46 : TypeId), AB.row true (List.length (ti (listW (itW fun q ↦ row9 f ((0 : Nat) + q)) m))) (9 : Nat) (row9 (wfun (ti (listW (itW fun q ↦ row9 f ((0 : Nat) + q)) m)))) (46 : TypeId)])) := by kernel_rfl

/-- A list of wheels and whether it is one, of one list. -/
def FOw (yes : List Wh → Bool) (tl : List Wh → List Wh) : List SA → Option FR
  | [.row m g] => some { val := .tup [.own 0 (tl (listW (itW g) m)).length, .v (.bool (yes (listW (itW g) m)))], new := [.row true (tl (listW (itW g) m)).length 9 (row9 (wfun (tl (listW (itW g) m)))) 46], obl := [allW m g, decide (m ≤ 2 ^ 38)] }
  | _ => none
theorem tI_no {L : List Wh} (h : yI L = false) : tI L = [] := by rw [tI, h]; rfl
theorem ok_tiS : SpecOk Try.prog 73 (specR md_ws (FOw yI tI)) := by
  refine specR_hr gmZ1_ok Try.func73 rfl fun sas fr hF ho => ?_
  unfold FOw at hF
  split at hF
  · rename_i m g
    cases hF
    simp only [ob_cons] at ho
    obtain ⟨h1, h2, _⟩ := ho
    have hm := of_decide_eq_true h2
    refine ⟨[.row false m 9 (row9 (itW g)) 46], noLam, 100, .cons (ABeq.row fun j hj => allW_get h1 j hj) .nil, noLam' _, ?_⟩
    show GoodQ (execF Try.prog (gmZ1 okD tidyL okT) noLam 100 Try.f73 [.sl 0 9 0 0 m none] [.row false m 9 (row9 (itW g)) 46] (packK 1)) _
    rw [treeTiS]
    simp only [row0, listW_itW]
    refine good_needs (by simp only [ob_cons, ob_nil, and_true, decide_eq_true_eq, Nat.ble_eq, allW_row, true_and]; omega) (good_cond (fun q => ?_) fun q => ?_)
    · have q2 : okD (listW (itW g) m) = false := by simpa using q
      have hy : yI (listW (itW g) m) = false := by rw [yI, q2]; rfl
      refine good_out ⟨_, rfl, ?_, .cons (ABeq.row fun j hj => (allW_get h1 j hj).symm) ?_⟩
      · rw [tI_no hy, hy]
        rfl
      · show Hsim _ [.row true (tI (listW (itW g) m)).length 9 (row9 (wfun (tI (listW (itW g) m)))) 46]
        rw [tI_no hy]
        exact .cons (ABeq.row fun j hj => absurd hj (Nat.not_lt_zero _)) .nil
    · have q2 : okD (listW (itW g) m) = true := by simpa using q
      refine good_needs (by simp only [ob_cons, ob_nil, and_true, decide_eq_true_eq, Nat.ble_eq, allW_row, true_and]; omega) (good_out ?_)
      have hT : tI (listW (itW g) m) = tidyL (listW (itW g) m) := by
        rw [tI, yI, q2, Bool.true_and]
        cases ht : okT (listW (itW g) m) with
        | true => rfl
        | false => exact (tidyL_no ht).symm
      have hY : yI (listW (itW g) m) = okT (listW (itW g) m) := by rw [yI, q2, Bool.true_and]
      refine ⟨_, rfl, ?_, .cons (ABeq.row fun j hj => (allW_get h1 j hj).symm) ?_⟩
      · rw [hT, hY]
        rfl
      · show Hsim _ [.row true (tI (listW (itW g) m)).length 9 (row9 (wfun (tI (listW (itW g) m)))) 46]
        rw [hT]
        exact Hsim.refl _
  · cases hF

end Go.Proofs.Ytmdcafhnjihckaa

/- Helpers of the laws that draw. No conditions. -/
namespace Go.Proofs.Ytmdcafhnjihckaa
open Go.RowKit
set_option maxRecDepth 100000

theorem row0B (b : Nat → Int) : (fun q => rowB b (0 + q)) = rowB b := by
  funext q
  rw [Nat.zero_add]
theorem listW_me (L : List Wh) : listW (itW (row9 (wfun L))) L.length = L := listW_self L _ rfl
theorem listW_me' (L : List Wh) : listW (wfun L) L.length = L := listW_fun L
theorem eq8b {f g : Nat → Int} (h : ∀ k, k < 8 → f k = g k) : (f 0 == g 0 && (f 1 == g 1 && (f 2 == g 2 && (f 3 == g 3 && (f 4 == g 4 && (f 5 == g 5 && (f 6 == g 6 && (f 7 == g 7 && true)))))))) = true := by
  rw [h 0 (by omega), h 1 (by omega), h 2 (by omega), h 3 (by omega), h 4 (by omega), h 5 (by omega), h 6 (by omega), h 7 (by omega)]
  simp only [beq_self_eq_true, Bool.and_self]
theorem eq8a {f g : Nat → Int} (h : ∀ k, k < 8 → f k = g k) : ((f 0 == g 0 && (f 1 == g 1 && (f 2 == g 2 && (f 3 == g 3 && (f 4 == g 4 && (f 5 == g 5 && (f 6 == g 6 && (f 7 == g 7 && true)))))))) && true) = true := by
  rw [eq8b h]
  rfl
theorem say {c : Bool} {H : List AB} (h : c = true) : GoodQ (.out .ret [.v (.bool c)] H) SaysYes := by
  subst h
  exact good_out rfl
/-- What DesignAt tells of a list. -/
theorem da_list {L : List Wh} {n : Int} (h : daOk (wfun L) n L.length = true) : okD L = true ∧ (0 ≤ n ∧ n ≤ 23) ∧ (∀ k, k < 8 → daV (wfun L) n L.length k = dAt L n k) ∧ bd8 1000000 (daV (wfun L) n L.length) := by
  have := da_spec h
  rw [listW_fun] at this
  exact this
theorem b38 {n : Nat} (h : n ≤ 12) : decide (n ≤ 274877906944) = true := decide_eq_true (by omega)
theorem eachL_len (sp tn la : Int) (mir : Bool) (T : List Wh) : (eachL sp tn la mir T).length ≤ 12 := by
  unfold eachL
  cases eachP tn la T with
  | false => simp
  | true =>
    show (tidyL _).length ≤ 12
    cases h : okT (T.map (chE sp tn la mir)) with
    | true => exact tidyL_len h
    | false => rw [tidyL_no h]; simp
theorem tI_len (T : List Wh) : (tI T).length ≤ 12 := by
  unfold tI
  cases h : yI T with
  | false => simp
  | true =>
    rw [yI, Bool.and_eq_true] at h
    exact tidyL_len h.2
/-- Linear forms that look at eight numbers only. -/
def Loc (φ : Int → (Nat → Int) → Int) : Prop := ∀ s f g, (∀ k, k < 8 → f k = g k) → φ s f = φ s g
theorem atT_loc (t : Int) {k : Nat} (hk : k < 8) : Loc (atT t k) := fun s f g h => atT_congr t hk s f g h
theorem atSp_loc (s0 : Int) {k : Nat} (hk : k < 8) : Loc (atSp s0 k) := fun s f g h => atSp_congr s0 hk s f g h
theorem tI_spec {L : List Wh} (h : yI L = true) : okD L = true ∧ isTidy (tI L) ∧ ∀ φ, Lin φ → linS φ (tI L) = linS φ L := by
  have hT : tI L = tidyL L := by rw [tI, h]; rfl
  rw [yI, Bool.and_eq_true] at h
  rw [hT]
  exact ⟨h.1, tidyL_lin ((okD_bd h.1).mono (by omega)) h.2⟩
theorem eqL_me (L : List Wh) : eqL L L = true := decide_eq_true rfl
theorem isTidy_nil : isTidy [] := ⟨List.Pairwise.nil, fun w hw => by simp at hw, rfl⟩
theorem tI_tidy (L : List Wh) : isTidy (tI L) := by
  cases h : yI L with
  | true => exact (tI_spec h).2.1
  | false => rw [tI_no h]; exact isTidy_nil
theorem yI_self {T : List Wh} (h : isTidy T) : yI T = true := by
  rw [yI, tidy_okD h, okT_self h]
  rfl
theorem tI_self {T : List Wh} (h : isTidy T) : tI T = T := by
  rw [tI, yI_self h, cond_true, tidyL_self h]
theorem not_eq8 {f g : Nat → Int} (h : ∀ k, k < 8 → f k = g k) (q : (!((f 0 == g 0 && (f 1 == g 1 && (f 2 == g 2 && (f 3 == g 3 && (f 4 == g 4 && (f 5 == g 5 && (f 6 == g 6 && (f 7 == g 7 && true)))))))) && true)) = true) : False := by
  rw [eq8a h] at q
  cases q
end Go.Proofs.Ytmdcafhnjihckaa
