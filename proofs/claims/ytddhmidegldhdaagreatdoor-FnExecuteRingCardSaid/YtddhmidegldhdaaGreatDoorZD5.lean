/- Plain: the point and the fold of two wheels. No program, no conditions. -/
import Derived.Test.YtddhmidegldhdaaGreatDoorZD0
import Derived.Test.YtddhmidegldhdaaGreatDoorZD1
import Derived.Test.YtddhmidegldhdaaGreatDoorZD2
import Derived.Test.YtddhmidegldhdaaGreatDoorZD3
import Derived.Test.YtddhmidegldhdaaGreatDoorZD4
import Derived.Test.YtddhmidegldhdaaGreatDoorRows
import Derived.WalkKit
import Derived.ProofKit
import Derived.OpenShut
import Derived.Carry
import Derived.Deep.Slices
import Derived.Laws.Strings
import Derived.LoopTactic
import Derived.Lib.ConvBytes
import Derived.Shelf.Small.Wraps
import Derived.OwnWalk
import Derived.Lib.ItoaLen
import Derived.LaidEql
import Derived.Stop.Asserts
import Derived.RowKitTokens
import Derived.Laws.OwnMore
import Derived.Below
/- The frame of a law with one slice as its argument: from what its run comes to to the given statement. Conditions: those that each theorem names. -/
namespace Go.Proofs.YtddhmidegldhdaaGreatDoor
open Go.ChangeShapes Go.WideShapes Go.ChangeAt Go.RowKit Go.Deep

theorem own : ownKnob Tryz.prog.godebug = none := by kernel_rfl
theorem laidOut : laidOutB Tryz.prog = true := by kernel_rfl

def SaysYes : Ex → List AV → List AB → Prop := fun _ l _ => l = [.v (.bool true)]

section
variable {H : Type} {enc : TypeId × Value → H} {P : Program}
theorem post_below {f : Func} {s : ChangeSpec} {apart fresh handsOn again : Bool} {W W' : World} {args : Array Value} {v : Value} {ds gs : List (DataW H)} {before pa pv : List MemPlace}
    (hW : DataW.Whole enc P f.params.toList s.vars apart W args.toList ds gs before)
    (hres : ∀ (b : Nat) (sp : Nat → Bool) (hd : Bool), DataW.TrodAll enc P W' b sp hd f.resultTypes.toList (v.resultList f.resultTypes.size) (s.fn H (ds ++ gs)).results [])
    (hargs : ∀ sp : Nat → Bool, (∀ p ∈ before, sp p.block = true) → DataW.TrodAll enc P W' 0 sp true f.params.toList args.toList (s.fn H (ds ++ gs)).args pa)
    (hvars : ∀ sp : Nat → Bool, (∀ p ∈ before, sp p.block = true) → DataW.TrodVars enc P W' sp s.vars (s.fn H (ds ++ gs)).vars pv)
    (hps : before = pa ++ pv) (hb : Below W.heap.size W W')
    (hok : ∀ (j : Nat) (t : TypeId) (r : Value), f.resultTypes[j]? = some t → (v.resultList f.resultTypes.size)[j]? = some r → Value.okWide P W' .any 0 t r) :
    s.post enc P f apart fresh handsOn again W args v W' := by
  have hlt : ∀ p ∈ before, p.block < W.heap.size := fun p hp => hW.lt p hp
  have hold : ∀ p ∈ before, (fun b => decide (b < W.heap.size)) p.block = true := fun p hp => by simpa using hlt p hp
  refine ⟨ds, gs, before, [], pa, pv, hW, hres _ _ _, hargs _ hold, hvars _ hold, World.keptBut_mono (fun p hp => ⟨hp, ?_⟩) (hb.frame (· ∈ before)), fun _ => ?_⟩
  · rw [hps, List.mem_append] at hp
    exact Or.inr hp
  · obtain ⟨_, _, _, _, _, hz, hn⟩ := hW
    refine ⟨hok, _, _, ([] ++ pa) ++ pv, ⟨[] ++ pa, pv, trodAll_append (hargs _ (fun _ _ => rfl)) (hres _ _ _), hvars _ (fun _ _ => rfl), rfl, ?_, ?_⟩, ?_⟩
    · intro b off hp
      have hin : MemPlace.cell b off ∈ before := by rw [hps]; simpa using hp
      rw [hb.frozen (hlt _ hin)]
      exact hz b off hin
    · intro ha
      have := hn ha
      rw [hps] at this
      simpa using this
    · intro p hp _
      rw [hps]
      simpa using hp

theorem arg_row {W : World} {base s : Nat} {t e : TypeId} {v : Value} {d : DataW H} {p : List MemPlace} (ht : P.underlying t = some (.slice e)) (hc : P.cellsOf e = s) (hs : 0 < s) (hv : Value.okWide P W .any base t v)
    (h : DataW.Trod enc P W 0 (fun _ => true) true t v d p) (row : (Nat → Int) → List Value) (ok : (Nat → Int) → Prop) (hrow : ∀ f, (row f).length = s ∧ ∀ x ∈ row f, x.oneCell' = true)
    (he : ∀ n cs x, cs.length = s → DataW.trod enc P W 0 (fun _ => true) true n e cs = some x → ∃ f, ok f ∧ cs = row f) (tt : TypeId) (htab : TabOk (fun k => W.heap.size ≤ k) W := by intro x hx; simp [tabG] at hx) :
    ∃ (m : Nat) (ν : Nu) (g : Nat → Nat → Int), m ≤ 9223372036854775807 ∧ (∀ j, j < m → ok (g j)) ∧ VR ν (.sl 0 s 0 0 m none) v ∧ RH (fun k => W.heap.size ≤ k) ν (fun b => ([AB.row false m s (fun j => row (g j)) tt] : List AB).getD b .gone) W ∧ ∀ i b, ν i = some b → i < 1 := by
  obtain ⟨pt, len, cap, rfl⟩ := okWide_slice ht hv
  obtain ⟨fuel, hf⟩ := h
  have empty : ∀ c, VR (fun _ => none) (.sl 0 s 0 0 0 none) (.slice pt 0 c) → ∃ (m : Nat) (ν : Nu) (g : Nat → Nat → Int), m ≤ 9223372036854775807 ∧ (∀ j, j < m → ok (g j)) ∧ VR ν (.sl 0 s 0 0 m none) (.slice pt 0 c) ∧ RH (fun k => W.heap.size ≤ k) ν (fun b => ([AB.row false m s (fun j => row (g j)) tt] : List AB).getD b .gone) W ∧ ∀ i b, ν i = some b → i < 1 := by
    intro c hvr
    refine ⟨0, fun _ => none, fun _ _ => 0, by omega, fun j hj => by omega, hvr, ⟨fun i => ?_, fun i j b b' _ _ _ h => by simp at h, fun i b _ h => by simp at h, (fun i b h => by simp at h), htab⟩, fun i b h => by simp at h⟩
    match i with
    | 0 => exact .inl ⟨rfl, rfl, rfl⟩
    | n + 1 => trivial
  rcases open_slice ht hf with ⟨h0, _⟩ | ⟨a, len', cap', m, n, D, Pl, hcs, hb, hl, hm, hmm, hx, hi⟩
  · simp only [Value.cells] at h0
    simp at h0
    obtain ⟨rfl, rfl, rfl⟩ := h0
    exact empty 0 (by simp only [VR]; exact ⟨none, 0, rfl, by simp, Nat.le_refl _, by omega⟩)
  · simp only [Value.cells] at hcs
    simp at hcs
    obtain ⟨rfl, rfl, rfl⟩ := hcs
    simp only [if_true] at hmm
    subst hmm
    unfold maxLen at hm
    by_cases hz : m = 0
    · subst hz
      have : len = 0 := by omega
      subst this
      exact empty 0 (by simp only [VR]; exact ⟨some a, 0, rfl, by simp, Nat.le_refl _, by omega⟩)
    · have cells : ∀ i, ∃ f, i < m → ok f ∧ ∀ k, k < s → W.cell? ((a.add (i * s)).add k) = (row f)[k]? := by
        intro i
        by_cases him : i < m
        · obtain ⟨cs', h1, h2⟩ := hi i him
          rw [hc] at h1
          obtain ⟨_, h3, h4⟩ := World.cells?_some h1
          obtain ⟨f, h5, h6⟩ := he n cs' _ h3 h2
          exact ⟨f, fun _ => ⟨h5, fun k hk => by rw [h4 k hk, h6]⟩⟩
        · exact ⟨fun _ => 0, fun h => absurd h him⟩
      have get : ∀ i k, i < m → k < s → ∃ x, (row (Classical.choose (cells i)))[k]? = some x := fun i k _ hk => by
        have := (hrow (Classical.choose (cells i))).1
        exact ⟨_, List.getElem?_eq_getElem (by omega)⟩
      obtain ⟨x0, hx0⟩ := get 0 0 (by omega) hs
      have c0 := ((Classical.choose_spec (cells 0)) (by omega)).2 0 hs
      rw [hx0, Nat.zero_mul] at c0
      have hspot : a.spot = none := by
        have := World.cell?_spot c0
        simpa [Addr.add] using this
      obtain ⟨bl, off, sp⟩ := a
      simp only at hspot
      subst hspot
      have e0 : ((⟨bl, off, none⟩ : Addr).add 0).add 0 = ⟨bl, off, none⟩ := by simp [Addr.add]
      rw [e0] at c0
      obtain ⟨o, ho⟩ : ∃ o, W.heap[bl]? = some o := by
        unfold World.cell? at c0
        split at c0
        · exact ⟨_, by assumption⟩
        · cases c0
      obtain ⟨l, t', fz, rfl⟩ : ∃ l t' fz, o = .cells (List.toArray l) t' fz := by
        unfold World.cell? at c0
        simp only [ho] at c0
        cases o with
        | cells c t' fz => exact ⟨c.toList, t', fz, by simp⟩
        | _ => cases c0
      refine ⟨len, fun i => if i = 0 then some ⟨bl, off, m⟩ else none, fun i => Classical.choose (cells i), by omega, fun j hj => ((Classical.choose_spec (cells j)) (by omega)).1, ?_, ⟨fun i => ?_, fun i j b b' hij hw _ h1 h2 => ?_, fun i b hw h1 => ?_, fun i b h1 => ?_, htab⟩, fun i b h1 => ?_⟩
      · simp only [VR]
        exact ⟨_, m, rfl, by simp, hl, fun _ => ⟨_, rfl, by simp⟩⟩
      · match i with
        | 0 =>
          refine .inr ⟨⟨bl, off, m⟩, l, t', fz, rfl, ho, fun h => by simp at h, hl, fun j hj => ⟨hrow _, fun k hk => ?_⟩⟩
          have := ((Classical.choose_spec (cells j)) (by omega)).2 k hk
          rw [← this]
          have e1 : ((⟨bl, off, none⟩ : Addr).add (j * s)).add k = ⟨bl, off + (j * s + k), none⟩ := by
            rw [addr_add, addr_add, Nat.add_assoc]
          rw [e1, cell_at ho]
        | n + 1 => trivial
      · match i with
        | 0 => simp [AB.wr] at hw
        | n + 1 => simp at h1
      · match i with
        | 0 => simp [AB.wr] at hw
        | n + 1 => simp at h1
      · match i with
        | 0 =>
          simp at h1
          subst h1
          exact (Array.getElem?_eq_some_iff.1 ho).1
        | n + 1 => simp at h1
      · match i with
        | 0 => omega
        | n + 1 => simp at h1
end

theorem yes_calls {Γ : Gam} (hΓ : GamOk Tryz.prog Γ) {Λ : Nat → Option Sum} {n : Nat} {f : FuncId} {fn : Func} {avs : List AV} {H : List AB} {ν : Nu} {vals : List Value} {w : World} (hf : Tryz.prog.funcs[f]? = some fn)
    (hL : ∀ c, fn.body = some c → LamOk Tryz.prog H.length Λ c) (h : GoodQ (execF Tryz.prog Γ Λ n fn avs H (packK H.length)) SaysYes) (hv : VRs ν avs vals) (hH : RH (fun k => w.heap.size ≤ k) ν (fun b => H.getD b .gone) w) (hdom : ∀ i b, ν i = some b → i < H.length) :
    Calls Tryz.prog f vals.toArray w fun e w' => e = .returned (.bool true) ∧ Below w.heap.size w w' := by
  refine (calls_pack hΓ mixed enters hf hL (fun k hk => hk) h.out hv hH hdom).mono ?_
  rintro e w' ⟨v, av, H', ν', rfl, hq, hvr, _, hfr, _⟩
  have : [av] = [AV.v (.bool true)] := hq
  simp only [List.cons.injEq, and_true] at this
  subst this
  simp only [VR] at hvr
  subst hvr
  exact ⟨rfl, ⟨hfr.os, hfr.tape, hfr.output, hfr.size, fun k hk => hfr.block k hk (by omega)⟩⟩

def okI (f : Nat → Int) : Prop := ∀ k, -9223372036854775808 ≤ f k ∧ f k ≤ 9223372036854775807

end Go.Proofs.YtddhmidegldhdaaGreatDoor

/- The abstract machine, 27: words for callees by their view, which may hand back what points to rows that are only read. Conditions: those of the table of callees. -/
namespace Go.Proofs.YtddhmidegldhdaaGreatDoor
open Go.RowKit

def bkK (keep : List Nat) (Hc : List AB) (base : Nat) : Nat → Option Nat := fun i => bif Nat.blt i keep.length then (bif (Hc.getD i .gone).live then keep[i]? else none) else some (base + (i - keep.length))

def fullB : List AB → List Bool
  | [] => []
  | .row false n _ _ _ :: l => decide (0 < n) :: fullB l
  | _ :: l => fullB l
theorem fullB_get : ∀ {H : List AB} {j n w : Nat} {g : Nat → List Value} {t : TypeId}, obls (fullB H) = true → H.getD j .gone = .row false n w g t → 0 < n
  | [], j, n, w, g, t, _, h => by simp at h
  | b :: H, 0, n, w, g, t, ho, h => by
    simp only [List.getD_cons_zero] at h
    subst h
    simp only [fullB, ob_cons, decide_eq_true_eq] at ho
    exact ho.1
  | b :: H, j + 1, n, w, g, t, ho, h => by
    simp only [List.getD_cons_succ] at h
    refine fullB_get (H := H) (j := j) ?_ h
    unfold fullB at ho
    split at ho
    · rename_i e; cases e
    · rename_i e; cases e; exact (ob_cons.1 ho).2
    · rename_i e; cases e; exact ho
theorem obls_app {a b : List Bool} : obls (a ++ b) = true ↔ obls a = true ∧ obls b = true := by
  simp [obls]

def specK (ros : List Bool) (F : List AV → List AB → Option HR) : Spec := fun avs H base =>
  match viewH ros avs H with
  | some q => match F q.2.1 q.2.2 with
    | some hr => match mapA (bkK q.1 q.2.2 base) hr.val, mapBs (bkK q.1 q.2.2 base) hr.out, mapBs (bkK q.1 q.2.2 base) hr.new with
      | some v, some ou, some nw => cond (Nat.beq hr.out.length q.2.2.length && hr.new.all AB.wr)
          (some { val := v, rd := q.1, put := putH q.1 q.2.2 ou, new := nw, obl := hr.obl ++ fullB q.2.2 }) none
      | _, _, _ => none
    | none => none
  | none => none

theorem specK_wk {f : FuncId} {fn : Func} {ros : List Bool} {F : List AV → List AB → Option HR} (hf : Tryz.prog.funcs[f]? = some fn) (hb : fn.body.isSome = true)
    (h : ∀ avs H hr, F avs H = some hr → obls hr.obl = true → ∃ (Γ : Gam) (H0 : List AB) (Λ : Nat → Option Sum) (n : Nat), GamOk Tryz.prog Γ ∧ Hsim H H0 ∧ (∀ c, fn.body = some c → LamOk Tryz.prog H0.length Λ c) ∧ GoodQ (execF Tryz.prog Γ Λ n fn avs H0 (packK H0.length)) (GivW hr)) : SpecOk Tryz.prog f (specK ros F) := by
  refine ⟨fun args w => enters f fn hf hb args w, fun avs H base δ ν vals w hS ho hv hbr hlt hfree hsep htab => ?_⟩
  unfold specK at hS
  split at hS
  case h_2 => cases hS
  rename_i q hq
  split at hS
  case h_2 => cases hS
  rename_i hr hF
  split at hS
  case h_2 => cases hS
  rename_i v ou nw hval hou hnw
  cases hck : (Nat.beq hr.out.length q.2.2.length && hr.new.all AB.wr) with
  | false => rw [hck] at hS; cases hS
  | true =>
  rw [hck] at hS
  simp only [cond_true, Option.some.injEq] at hS
  subst hS
  rw [Bool.and_eq_true] at hck
  have hlen := Nat.eq_of_beq_eq_true hck.1
  have hnewwr := List.all_eq_true.1 hck.2
  unfold viewH at hq
  generalize reach H 400 [] (idxAs avs) = keep at *
  split at hq
  case h_2 => cases hq
  rename_i avs' H1 hra hrb
  cases hnd : nodupB keep with
  | false => rw [hnd] at hq; cases hq
  | true =>
  rw [hnd] at hq
  simp only [cond_true, Option.some.injEq] at hq
  subst hq
  simp only at hval hou hnw hF hlen hbr hsep ho hfree ⊢
  rw [obls_app] at ho
  obtain ⟨ho, hof⟩ := ho
  obtain ⟨hl1, hg1⟩ := renBs_get hrb
  have hlHc : (roL ros H1).length = keep.length := by rw [roL_length, hl1]
  have nuAt : ∀ {j i}, keep[j]? = some i → keepNu keep ν j = ν i := fun hj => by simp [keepNu, hj]
  have ofNu : ∀ {j b}, keepNu keep ν j = some b → ∃ i, keep[j]? = some i ∧ ν i = some b := by
    intro j b hb
    unfold keepNu at hb
    split at hb
    · rename_i i hi; exact ⟨i, hi, hb⟩
    · cases hb
  have ren_marks : ∀ {b b' : AB}, renB keep b = some b' → b'.wr = b.wr ∧ b'.live = b.live := by
    intro b b' hb
    cases b with
    | cells cs t => simp only [renB, Option.map_eq_some_iff] at hb; obtain ⟨q, _, rfl⟩ := hb; exact ⟨rfl, rfl⟩
    | row => simp only [renB, Option.some.injEq] at hb; subst hb; exact ⟨rfl, rfl⟩
    | gone => simp only [renB, Option.some.injEq] at hb; subst hb; exact ⟨rfl, rfl⟩
  -- the callee's block j is the caller's block keep j
  have view : ∀ {j i}, keep[j]? = some i → ∃ b1, H1[j]? = some b1 ∧ renB keep (H.getD i .gone) = some b1 ∧ (roL ros H1)[j]? = some (roB (ros.getD j false) b1) := by
    intro j i hj
    obtain ⟨b1, e1, e2⟩ := hg1 j i hj
    exact ⟨b1, e1, e2, by rw [roL_get, e1]; rfl⟩
  have wrOf : ∀ {j i}, keep[j]? = some i → ((roL ros H1).getD j .gone).wr = true → (H.getD i .gone).wr = true := by
    intro j i hj hw
    obtain ⟨b1, _, e2, e3⟩ := view hj
    have : (roL ros H1).getD j .gone = roB (ros.getD j false) b1 := by simp [List.getD_eq_getElem?_getD, e3]
    rw [this] at hw
    rw [← (ren_marks e2).1]
    exact roB_wr hw
  have liveOf : ∀ {j i}, keep[j]? = some i → ((roL ros H1).getD j .gone).live = true → (H.getD i .gone).live = true := by
    intro j i hj hw
    obtain ⟨b1, _, e2, e3⟩ := view hj
    have : (roL ros H1).getD j .gone = roB (ros.getD j false) b1 := by simp [List.getD_eq_getElem?_getD, e3]
    rw [this, roB_live] at hw
    rw [← (ren_marks e2).2]
    exact hw
  obtain ⟨hlo, hgo⟩ := mapBs_get hou
  obtain ⟨hln, hgn⟩ := mapBs_get hnw
  have inPut : ∀ {j i}, keep[j]? = some i → ((roL ros H1).getD j .gone).wr = true → ∃ o o', hr.out[j]? = some o ∧ ou[j]? = some o' ∧ mapB (bkK keep (roL ros H1) base) o = some o' ∧ (i, o') ∈ putH keep (roL ros H1) ou := by
    intro j i hj hw
    have hjl : j < keep.length := (List.getElem?_eq_some_iff.1 hj).1
    have ho : hr.out[j]? = some (hr.out[j]'(by omega)) := List.getElem?_eq_getElem _
    obtain ⟨o', e1, e2⟩ := hgo j _ ho
    have hh : (roL ros H1)[j]? = some ((roL ros H1)[j]'(by omega)) := List.getElem?_eq_getElem _
    refine ⟨_, o', ho, e1, e2, putH_of hj hh e1 ?_⟩
    have : (roL ros H1).getD j .gone = (roL ros H1)[j]'(by omega) := by simp [List.getD_eq_getElem?_getD, hh]
    rw [← this]; exact hw
  let M : Nat → Prop := fun k => w.heap.size ≤ k ∨ ∃ j b, ((roL ros H1).getD j .gone).wr = true ∧ keepNu keep ν j = some b ∧ b.n = k
  have hRH : RH M (keepNu keep ν) (fun b => (roL ros H1).getD b .gone) w := by
    refine ⟨fun j => ?_, fun i j b b' hne hw hlv hb hb' => ?_, fun i b hw hb => .inr ⟨i, b, hw, hb, rfl⟩, fun i b hb => ?_, htab.mono ?_⟩
    · cases hj : keep[j]? with
      | none =>
        have : (roL ros H1).getD j .gone = .gone := by
          rw [List.getD_eq_getElem?_getD, List.getElem?_eq_none]
          · rfl
          · rw [hlHc]
            exact List.getElem?_eq_none_iff.1 hj
        simp only [this]
        trivial
      | some i =>
        obtain ⟨b1, e1, e2, e3⟩ := view hj
        have : (roL ros H1).getD j .gone = roB (ros.getD j false) b1 := by simp [List.getD_eq_getElem?_getD, e3]
        simp only [this]
        refine roB_br ?_
        have hbi := hbr i (List.mem_of_getElem? hj)
        have hν := nuAt hj
        cases hi : H.getD i .gone with
        | cells cs t =>
          rw [hi] at e2 hbi
          simp only [renB, Option.map_eq_some_iff] at e2
          obtain ⟨cs', h1, h2⟩ := e2
          rw [← h2]
          obtain ⟨b, l, g1, g2, g3, g4⟩ := hbi
          exact ⟨b, l, by rw [hν]; exact g1, g2, g3, g4.ren h1⟩
        | row rw' n wd g t =>
          rw [hi] at e2 hbi
          simp only [renB, Option.some.injEq] at e2
          rw [← e2]
          rcases hbi with ⟨g1, g2, g3⟩ | ⟨b, l, t', fz, g1, g2⟩
          · exact .inl ⟨g1, g2, by rw [hν]; exact g3⟩
          · exact .inr ⟨b, l, t', fz, by rw [hν]; exact g1, g2⟩
        | gone =>
          rw [hi] at e2
          simp only [renB, Option.some.injEq] at e2
          rw [← e2]
          trivial
    · obtain ⟨i', hi, e1⟩ := ofNu hb
      obtain ⟨j', hj, e2⟩ := ofNu hb'
      obtain ⟨_, o', _, _, _, hp⟩ := inPut hi hw
      refine hsep i' o' j' b b' hp (List.mem_of_getElem? hj) (fun e => ?_) (liveOf hj hlv) e1 e2
      subst e
      exact hne (nodupB_ne hnd i j i' hi hj)
    · obtain ⟨i', _, e1⟩ := ofNu hb
      exact hlt i' b e1
    · rintro k _ (hk | ⟨j, b, hw, hb, rfl⟩)
      · exact .inl hk
      · obtain ⟨i', hi, e1⟩ := ofNu hb
        obtain ⟨_, o', _, _, _, hp⟩ := inPut hi hw
        exact .inr ⟨i', b, _, hp, e1, rfl⟩
  obtain ⟨Γ, H0, Λ, n, hΓ, hsim, hL, hG⟩ := h avs' (roL ros H1) hr hF ho
  have hl0 : H0.length = keep.length := by rw [← hsim.length, hlHc]
  have hdom0 : ∀ i b, keepNu keep ν i = some b → i < H0.length := by
    intro i b hb
    obtain ⟨i', hi, _⟩ := ofNu hb
    rw [hl0]
    exact (List.getElem?_eq_some_iff.1 hi).1
  refine (calls_pack hΓ mixed enters hf hL (fun k hk => Or.inl hk) hG.out (hv.ren hra) (hRH.sim hsim) hdom0).mono ?_
  rintro e w' ⟨vv, av, He, ν', rfl, ⟨av2, hav, hwk, hHe⟩, hvr, hRH', hfr, hle, hdom'⟩
  simp only [List.cons.injEq, and_true] at hav
  subst hav
  have hvr := hwk _ _ _ _ hRH' hvr
  have hRH2 := hRH'.sim hHe
  have hHl : He.length = keep.length + hr.new.length := by rw [hHe.length, List.length_append, hlen, hlHc]
  -- a block that may be written has a place
  have wrNu : ∀ {j : Nat}, ((roL ros H1).getD j .gone).wr = true → ∃ b, keepNu keep ν j = some b := by
    intro j hw
    have : BR (keepNu keep ν) j ((roL ros H1).getD j .gone) w := hRH.br j
    cases hb : (roL ros H1).getD j .gone with
    | cells cs t => rw [hb] at this; obtain ⟨b, l, e1, _⟩ := this; exact ⟨b, e1⟩
    | row rw' n wd g t =>
      rw [hb] at this hw
      rcases this with ⟨e1, _⟩ | ⟨b, l, t', fz, e1, _⟩
      · simp only [AB.wr] at hw
        rw [e1] at hw
        cases hw
      · exact ⟨b, e1⟩
    | gone => rw [hb] at hw; cases hw
  have liveNu : ∀ {j : Nat}, ((roL ros H1).getD j .gone).live = true → ∃ b, keepNu keep ν j = some b := by
    intro j hw
    have : BR (keepNu keep ν) j ((roL ros H1).getD j .gone) w := hRH.br j
    cases hb : (roL ros H1).getD j .gone with
    | cells cs t => rw [hb] at this; obtain ⟨b, l, e1, _⟩ := this; exact ⟨b, e1⟩
    | row rw' n wd g t =>
      rw [hb] at this
      rcases this with ⟨e1, e2, _⟩ | ⟨b, l, t', fz, e1, _⟩
      · subst e1
        have := fullB_get hof hb
        omega
      · exact ⟨b, e1⟩
    | gone => rw [hb] at hw; cases hw
  let ν2 : Nu := fun i => match ν i with
    | some b => some b
    | none => if base ≤ i ∧ i < base + nw.length then ν' (keep.length + (i - base)) else none
  have n2old : ∀ {i b}, ν i = some b → ν2 i = some b := fun {i b} h => by simp only [ν2, h]
  have n2new : ∀ {j : Nat}, j < nw.length → ν2 (base + j) = ν' (keep.length + j) := fun {j} hj => by
    have h0 := hfree j hj
    have h1 : ν2 (base + j) = if base ≤ base + j ∧ base + j < base + nw.length then ν' (keep.length + (base + j - base)) else none := by
      show (match ν (base + j) with | some b => some b | none => if base ≤ base + j ∧ base + j < base + nw.length then ν' (keep.length + (base + j - base)) else none) = _
      rw [h0]
    rw [h1, if_pos ⟨by omega, by omega⟩, Nat.add_sub_cancel_left]
  have mp : ∀ i i' b, bkK keep (roL ros H1) base i = some i' → ν' i = some b → ν2 i' = some b := by
    intro i i' b h1 h2
    unfold bkK at h1
    cases hc : Nat.blt i keep.length with
    | true =>
      rw [hc, cond_true] at h1
      cases hw : ((roL ros H1).getD i .gone).live with
      | false => rw [hw] at h1; cases h1
      | true =>
        rw [hw, cond_true] at h1
        obtain ⟨b0, hb0⟩ := liveNu hw
        have := hle _ _ hb0
        rw [h2] at this
        cases this
        rw [nuAt h1] at hb0
        exact n2old hb0
    | false =>
      rw [hc, cond_false, Option.some.injEq] at h1
      subst h1
      have hge : ¬ i < keep.length := fun hl => by rw [← Nat.blt_eq] at hl; rw [hl] at hc; cases hc
      have hd := hdom' i b h2
      have e : i = keep.length + (i - keep.length) := by omega
      rw [n2new (by rw [hln]; omega), ← e]
      exact h2
  have outBR : ∀ {j : Nat} {o : AB}, hr.out[j]? = some o → BR ν' j o w' := by
    intro j o hj
    have := hRH2.br j
    have hjl : j < hr.out.length := (List.getElem?_eq_some_iff.1 hj).1
    simp only [List.getD_eq_getElem?_getD, List.getElem?_append_left hjl, hj, Option.getD_some] at this
    exact this
  have newAt : ∀ {j : Nat} {o : AB}, hr.new[j]? = some o → (hr.out ++ hr.new).getD (keep.length + j) .gone = o := by
    intro j o hj
    rw [List.getD_eq_getElem?_getD, List.getElem?_append_right (by omega)]
    have : keep.length + j - hr.out.length = j := by omega
    rw [this, hj]
    rfl
  refine ⟨vv, ν2, rfl, ⟨fun i b hb => n2old hb, fun i h1 h2 => ?_, hvr.map mp hval, fun i b hl => ?_, fun j b hj => ?_, hfr.os, hfr.tape, hfr.output, hfr.size, fun k hk hne => ?_, fun j b hj hb => ?_, fun j j' b b' hne hj hj' hb hb' => ?_⟩⟩
  · simp only [ν2, h1] at h2
    split at h2
    · assumption
    · exact (h2 rfl).elim
  · obtain ⟨j, hh, e1, e2, e3, e4⟩ := putH_mem (lookB_mem hl)
    have hw : ((roL ros H1).getD j .gone).wr = true := by simp only [List.getD_eq_getElem?_getD, e2, Option.getD_some]; exact e4
    obtain ⟨o, o', g1, g2, g3, _⟩ := inPut e1 hw
    rw [e3] at g2
    cases g2
    obtain ⟨b0, hb0⟩ := wrNu hw
    have e5 : ν2 i = ν' j := by
      rw [hle _ _ hb0]
      rw [nuAt e1] at hb0
      exact n2old hb0
    exact (outBR g1).map mp e5 g3
  · have hjl : j < nw.length := (List.getElem?_eq_some_iff.1 hj).1
    have hn : hr.new[j]? = some (hr.new[j]'(by omega)) := List.getElem?_eq_getElem _
    obtain ⟨b', e1, e2⟩ := hgn j _ hn
    rw [hj] at e1
    cases e1
    have : BR ν' (keep.length + j) ((hr.out ++ hr.new).getD (keep.length + j) .gone) w' := hRH2.br (keep.length + j)
    rw [newAt hn] at this
    exact this.map mp (n2new hjl) e2
  · refine hfr.block k hk fun hM => ?_
    rcases hM with hM | ⟨j, b, hw, hb, e⟩
    · omega
    · obtain ⟨i, hi, e1⟩ := ofNu hb
      obtain ⟨_, o', _, _, _, hp⟩ := inPut hi hw
      exact hne _ b hp e1 e
  · have hj : j < nw.length := hj
    rw [n2new hj] at hb
    refine ⟨hRH2.lt _ _ hb, ?_⟩
    have hn : hr.new[j]? = some (hr.new[j]'(by omega)) := List.getElem?_eq_getElem _
    have hwn : ((hr.out ++ hr.new).getD (keep.length + j) .gone).wr = true := by
      rw [newAt hn]
      exact hnewwr _ (List.mem_of_getElem? hn)
    rcases hRH2.own _ b hwn hb with hM | ⟨i, b0, hw, hb0, e⟩
    · exact .inl hM
    · right
      obtain ⟨i', hi, e1⟩ := ofNu hb0
      obtain ⟨o, o', g1, g2, g3, hp⟩ := inPut hi hw
      obtain ⟨o2, hl2⟩ := lookB_of hp
      refine ⟨i', b0, ?_, e1, e⟩
      have hil : i < keep.length := (List.getElem?_eq_some_iff.1 hi).1
      have hgone : o = .gone := by
        cases hlv : o.live with
        | false => cases o <;> first | rfl | cases hlv
        | true =>
          have e3 : (hr.out ++ hr.new).getD i .gone = o := by
            rw [List.getD_eq_getElem?_getD, List.getElem?_append_left (by omega), g1]
            rfl
          exact (hRH2.sep (keep.length + j) i b b0 (by omega) hwn (by rw [e3]; exact hlv) hb (hle _ _ hb0) e.symm).elim
      subst hgone
      have ho' := (mapB_marks g3).2.2 rfl
      subst ho'
      obtain ⟨j2, h2, f1, f2, f3, f4⟩ := putH_mem (lookB_mem hl2)
      have : j2 = i := nodupB_ne hnd j2 i i' f1 hi
      subst this
      rw [g2] at f3
      cases f3
      exact hl2
  · have hj : j < nw.length := hj
    have hj' : j' < nw.length := hj'
    rw [n2new hj] at hb
    rw [n2new hj'] at hb'
    have hn : hr.new[j]? = some (hr.new[j]'(by omega)) := List.getElem?_eq_getElem _
    have hn' : hr.new[j']? = some (hr.new[j']'(by omega)) := List.getElem?_eq_getElem _
    have w1 : ((hr.out ++ hr.new).getD (keep.length + j) .gone).wr = true := by
      rw [newAt hn]
      exact hnewwr _ (List.mem_of_getElem? hn)
    have w2 : ((hr.out ++ hr.new).getD (keep.length + j') .gone).live = true := by
      rw [newAt hn']
      have := hnewwr _ (List.mem_of_getElem? hn')
      revert this
      cases hr.new[j']'(by omega) <;> simp [AB.wr, AB.live]
    exact hRH2.sep (keep.length + j) (keep.length + j') b b' (by omega) w1 w2 hb hb'

theorem specK_okG {f : FuncId} {fn : Func} {ros : List Bool} {F : List AV → List AB → Option HR} (hf : Tryz.prog.funcs[f]? = some fn) (hb : fn.body.isSome = true)
    (h : ∀ avs H hr, F avs H = some hr → obls hr.obl = true → ∃ (Γ : Gam) (H0 : List AB) (Λ : Nat → Option Sum) (n : Nat), GamOk Tryz.prog Γ ∧ Hsim H H0 ∧ (∀ c, fn.body = some c → LamOk Tryz.prog H0.length Λ c) ∧ GoodQ (execF Tryz.prog Γ Λ n fn avs H0 (packK H0.length)) (GivH hr)) : SpecOk Tryz.prog f (specK ros F) :=
  specK_wk hf hb fun avs H hr hF ho => by
    obtain ⟨Γ, H0, Λ, n, h0, h1, h2, h3⟩ := h avs H hr hF ho
    exact ⟨Γ, H0, Λ, n, h0, h1, h2, ⟨res_mono (fun e l He ⟨h4, h5⟩ => ⟨_, h4, fun _ _ _ _ _ hv => hv, h5⟩) h3.out⟩⟩
theorem specK_ok {Γ : Gam} (hΓ : GamOk Tryz.prog Γ) {f : FuncId} {fn : Func} {ros : List Bool} {F : List AV → List AB → Option HR} (hf : Tryz.prog.funcs[f]? = some fn) (hb : fn.body.isSome = true)
    (h : ∀ avs H hr, F avs H = some hr → obls hr.obl = true → ∃ (H0 : List AB) (Λ : Nat → Option Sum) (n : Nat), Hsim H H0 ∧ (∀ c, fn.body = some c → LamOk Tryz.prog H0.length Λ c) ∧ GoodQ (execF Tryz.prog Γ Λ n fn avs H0 (packK H0.length)) (GivH hr)) : SpecOk Tryz.prog f (specK ros F) :=
  specK_okG hf hb fun avs H hr hF ho => let ⟨H0, Λ, n, h1, h2, h3⟩ := h avs H hr hF ho; ⟨Γ, H0, Λ, n, hΓ, h1, h2, h3⟩

end Go.Proofs.YtddhmidegldhdaaGreatDoor

/- A reader of bytes: pick, its tree. -/
namespace Go.Proofs.YtddhmidegldhdaaGreatDoor
open Go.RowKit
set_option maxRecDepth 100000

abbrev rowB (b : Nat → Int) : Nat → List Value := fun j => [.int .u8 (b j)]
abbrev hpRd (l : Nat) (c : Option Nat) (p : Int) (m : Nat) (b : Nat → Int) (tr tb : TypeId) : List AB := [.cells [.sl 1 1 0 0 l c, .v (i64 p)] tr, .row false m 1 (rowB b) tb]
theorem treePk_h (l : Nat) (c : Option Nat) (p : Int) (m : Nat) (b : Nat → Int) (tr tb : TypeId) (n : Int) (u0 : _) (hu0 : (IntKind.wrap .i64 (p + (1 : Int)) - (1 : Int)) = u0) (u3 : _) (hu3 : (IntKind.wrap .i64 (IntKind.wrap .i64 (IntKind.wrap .i64 u0 * (7 : Int)) + (3 : Int))) = u3) (u4 : _) (hu4 : (IntKind.wrap .i64 u0) = u4) (u5 : _) (hu5 : (↑l : Int) = u5) (u6 : _) (hu6 : (0 : Int) = u6) (u7 : _) (hu7 : (0 : Nat) = u7) (u1 : _) (hu1 : (IntKind.wrap .i64 (IntKind.wrap .i64 (IntKind.wrap .i64 (IntKind.wrap .i64 (IntKind.wrap .i64 (b (u7 + Int.toNat (Int.tmod u4 u5))) * (131 : Int)) + IntKind.wrap .i64 (IntKind.wrap .i64 (b (u7 + Int.toNat (Int.tmod u3 u5))) * (1117 : Int))) + IntKind.wrap .i64 (IntKind.wrap .i64 u0 * (29 : Int))) + IntKind.wrap .i64 (IntKind.wrap .i64 (Int.tdiv u4 u5) * (53 : Int)))) = u1) (u2 : _) (hu2 : [AB.cells [AV.sl 1 (1 : Nat) u7 u7 l c, AV.v (.int .i64 (IntKind.wrap .i64 (p + (1 : Int))))] tr, AB.row false m 1 (rowB b) tb] = u2) : execF Tryz.prog g0 noLam 100 Tryz.f32 [.ptr 0 0 0 0, .v (i64 n)] (hpRd l c p m b tr tb) (packK 2)
    = bif decide (n < (1 : Int)) then Res.out .ret [AV.v (.int .i64 u6)] u2 else bif u5 == u6 then Res.out .ret [AV.v (.int .i64 u6)] u2 else bif decide (IntKind.wrap .i64 u0 < u5) then needs [decide (u6 ≤ IntKind.wrap .i64 u0), decide (IntKind.wrap .i64 u0 < u5), decide (u7 + Int.toNat u4 < m), !decide (n = u6)] (Res.out .ret [AV.v (.int .i64 (Int.tmod (IntKind.wrap .i64 (b (u7 + Int.toNat u4))) n))] u2) else needs [!decide (u5 = u6), decide (u6 ≤ Int.tmod u4 u5), decide (Int.tmod u4 u5 < u5), decide (u7 + Int.toNat (Int.tmod u4 u5) < m), !decide (u5 = u6), decide (u6 ≤ Int.tmod u3 u5), decide (Int.tmod u3 u5 < u5), decide (u7 + Int.toNat (Int.tmod u3 u5) < m), !decide (u5 = u6), !decide (n = u6)] (Res.out .ret [AV.v (.int .i64 (Int.tmod (IntKind.wrap .i64 (↑(BitVec.toNat (BitVec.ofInt (64 : Nat) u1 ^^^ BitVec.ofInt (64 : Nat) (IntKind.wrap .i64 (Int.tdiv u1 (64 : Int))))) : Int)) n))] u2) := by
  subst hu2 hu1 hu7 hu6 hu5 hu4 hu3 hu0
  kernel_rfl
theorem treePk (l : Nat) (c : Option Nat) (p : Int) (m : Nat) (b : Nat → Int) (tr tb : TypeId) (n : Int) : type_of% (treePk_h l c p m b tr tb n _ rfl _ rfl _ rfl _ rfl _ rfl _ rfl _ rfl _ rfl) := treePk_h l c p m b tr tb n _ rfl _ rfl _ rfl _ rfl _ rfl _ rfl _ rfl _ rfl

end Go.Proofs.YtddhmidegldhdaaGreatDoor

/- A reader of bytes: what pick returns. Conditions: bytes; the reader's place is at most 2^30. -/
namespace Go.Proofs.YtddhmidegldhdaaGreatDoor
open Go.RowKit
set_option maxRecDepth 100000

def isB : List Value → Bool
  | [.int .u8 x] => inR x 0 255
  | _ => false
def u8Qv : Value → Int
  | .int .u8 x => x
  | _ => 0
def itB (g : Nat → List Value) : Nat → Int := fun j => u8Qv ((g j).getD 0 undef)
def okB (m : Nat) (g : Nat → List Value) : Bool := (List.range m).all fun j => isB (g j)
theorem okB_get {m : Nat} {g : Nat → List Value} (h : okB m g = true) {j : Nat} (hj : j < m) : g j = rowB (itB g) j ∧ 0 ≤ itB g j ∧ itB g j ≤ 255 := by
  have h1 := List.all_eq_true.1 h j (by simpa using hj)
  unfold isB at h1
  unfold rowB itB
  split at h1
  · rename_i x e
    rw [e]
    have e2 : u8Qv ([Value.int .u8 x].getD 0 undef) = x := rfl
    rw [e2]
    unfold inR at h1
    simp only [Bool.and_eq_true, decide_eq_true_eq] at h1
    exact ⟨rfl, h1.1, h1.2⟩
  · cases h1
theorem itB_row (b : Nat → Int) : itB (rowB b) = b := rfl

def pkX (l : Nat) (b : Nat → Int) (p : Int) : Int :=
  W (W (W (W (W (b (0 + (Int.tmod p l).toNat)) * 131) + W (W (b (0 + (Int.tmod (W (W (p * 7) + 3)) l).toNat)) * 1117)) + W (p * 29)) + W (W (Int.tdiv p l) * 53))
def pkY (x : Int) : Int := W ((BitVec.ofInt 64 x ^^^ BitVec.ofInt 64 (W (Int.tdiv x 64))).toNat)
def pkR (l : Nat) (b : Nat → Int) (p n : Int) : Int :=
  bif decide (n < 1) then 0 else bif (l : Int) == 0 then 0 else bif decide (p < l) then Int.tmod (W (b (0 + p.toNat))) n else Int.tmod (pkY (pkX l b p)) n
def pkV (l : Nat) (b : Nat → Int) (p n : Int) : Int := if 0 ≤ pkR l b p n ∧ pkR l b p n < n then pkR l b p n else 0
theorem pkY_nn {x : Int} (h0 : 0 ≤ x) (h1 : x < 2 ^ 62) : 0 ≤ pkY x := by
  unfold pkY
  have e : W (Int.tdiv x 64) = x / 64 := by
    rw [Int.tdiv_eq_ediv_of_nonneg h0]
    exact w64_in (by omega) (by omega)
  rw [e, BitVec.toNat_xor, BitVec.toNat_ofInt, BitVec.toNat_ofInt]
  have : (x % (2 ^ 64 : Nat)).toNat ^^^ (x / 64 % (2 ^ 64 : Nat)).toNat < 2 ^ 62 := Nat.xor_lt_two_pow (by omega) (by omega)
  rw [w64_in (by omega) (by omega)]
  omega
theorem tmod_in {x : Int} {l : Nat} (h : 0 ≤ x) (hl : l ≠ 0) : 0 ≤ Int.tmod x l ∧ Int.tmod x l < l := by
  have : (0 : Int) < l := by omega
  exact ⟨Int.tmod_nonneg _ h, Int.tmod_lt_of_pos _ this⟩
theorem pkX_in {l m : Nat} {b : Nat → Int} {p : Int} (hb : ∀ j, j < m → 0 ≤ b j ∧ b j ≤ 255) (hl : l ≤ m) (hl0 : l ≠ 0) (h0 : 0 ≤ p) (h1 : p ≤ 2 ^ 30) : 0 ≤ pkX l b p ∧ pkX l b p < 2 ^ 62 := by
  have a1 := tmod_in h0 hl0
  have e1 : W (W (p * 7) + 3) = p * 7 + 3 := by rw [w64_in (x := p * 7) (by omega) (by omega), w64_in (by omega) (by omega)]
  have a2 := tmod_in (x := p * 7 + 3) (by omega) hl0
  have b1 := hb (0 + (Int.tmod p l).toNat) (by omega)
  have b2 := hb (0 + (Int.tmod (p * 7 + 3) l).toNat) (by omega)
  have a3 : 0 ≤ Int.tdiv p l := Int.tdiv_nonneg h0 (by omega)
  have a4 : Int.tdiv p l ≤ p := by
    rw [Int.tdiv_eq_ediv_of_nonneg h0]
    exact Int.ediv_le_self _ h0
  unfold pkX
  rw [e1]
  generalize b (0 + (Int.tmod p l).toNat) = x1 at b1
  generalize b (0 + (Int.tmod (p * 7 + 3) l).toNat) = x2 at b2
  generalize Int.tdiv p l = x3 at a3 a4
  rw [w64_in (x := x1) (by omega) (by omega), w64_in (x := x2) (by omega) (by omega), w64_in (x := x3) (by omega) (by omega), w64_in (x := x1 * 131) (by omega) (by omega), w64_in (x := x2 * 1117) (by omega) (by omega), w64_in (x := x3 * 53) (by omega) (by omega), w64_in (x := p * 29) (by omega) (by omega), w64_in (x := x1 * 131 + x2 * 1117) (by omega) (by omega), w64_in (x := x1 * 131 + x2 * 1117 + p * 29) (by omega) (by omega), w64_in (by omega) (by omega)]
  omega
theorem pkV_eq {l m : Nat} {b : Nat → Int} {p n : Int} (hb : ∀ j, j < m → 0 ≤ b j ∧ b j ≤ 255) (hl : l ≤ m) (h0 : 0 ≤ p) (h1 : p ≤ 2 ^ 30) : pkV l b p n = pkR l b p n := by
  have : pkR l b p n = 0 ∨ 0 ≤ pkR l b p n ∧ pkR l b p n < n := by
    unfold pkR
    by_cases c1 : n < 1
    · rw [decide_eq_true c1]; exact .inl rfl
    · rw [decide_eq_false c1, cond_false]
      by_cases c2 : (l : Int) = 0
      · rw [beq_iff_eq.2 c2]; exact .inl rfl
      · rw [beq_eq_false_iff_ne.2 c2, cond_false]
        by_cases c3 : p < l
        · rw [decide_eq_true c3, cond_true]
          have b1 := hb (0 + p.toNat) (by omega)
          rw [w64_in (by omega) (by omega)]
          exact .inr ⟨Int.tmod_nonneg _ b1.1, Int.tmod_lt_of_pos _ (by omega)⟩
        · rw [decide_eq_false c3, cond_false]
          have := pkX_in hb hl (by omega) h0 h1
          exact .inr ⟨Int.tmod_nonneg _ (pkY_nn this.1 this.2), Int.tmod_lt_of_pos _ (by omega)⟩
  unfold pkV
  split
  · rfl
  · omega

theorem ABeq.trans' {a b c : AB} (h1 : ABeq a b) (h2 : ABeq b c) : ABeq a c := by
  cases a with
  | row rw n w g t =>
    obtain ⟨n', g', rfl, hn, hg⟩ := h1
    obtain ⟨n2, g2, rfl, hn2, hg2⟩ := h2
    exact ⟨n2, g2, rfl, Nat.le_trans hn2 hn, fun j hj => (hg j (by omega)).trans (hg2 j hj)⟩
  | cells => cases h1; exact h2
  | gone => cases h1; exact h2
def FpkO (pk : Nat → (Nat → Int) → Int → Int → Int) : List AV → List AB → Option HR
  | [.ptr 0 0 0 0, .v (.int .i64 n)], [.cells [.sl 1 1 0 0 l c, .v (.int .i64 p)] tr, .row false m 1 g tb] => some { val := .v (.int .i64 (pk l (itB g) p n)), out := [.cells [.sl 1 1 0 0 l c, .v (.int .i64 (p + 1))] tr, .row false m 1 g tb], obl := [okB m g, decide (l ≤ m), decide (0 ≤ p), decide (p ≤ 2 ^ 30)] }
  | _, _ => none
theorem pick_good {l m : Nat} {c : Option Nat} {p : Int} {b : Nat → Int} {tr tb : TypeId} (n : Int) (hb : ∀ j, j < m → 0 ≤ b j ∧ b j ≤ 255) (h2 : l ≤ m) (h3 : 0 ≤ p) (h4 : p ≤ 2 ^ 30) :
    GoodQ (execF Tryz.prog g0 noLam 100 Tryz.f32 [.ptr 0 0 0 0, .v (i64 n)] (hpRd l c p m b tr tb) (packK 2)) (fun _ vs He => vs = [.v (i64 (pkV l b p n))] ∧ Hsim He (hpRd l c (p + 1) m b tr tb)) := by
  have e0 : IntKind.wrap IntKind.i64 (p + 1) = p + 1 := wr_in (by omega)
  have e1 : IntKind.wrap IntKind.i64 (p + 1 - 1) = p := by rw [wr_in (by omega)]; omega
  rw [treePk]
  simp only [e0, e1]
  have hv := pkV_eq (n := n) hb h2 h3 h4
  have key : ∀ x, pkR l b p n = x → [AV.v (.int .i64 x)] = [AV.v (i64 (pkV l b p n))] ∧ Hsim (hpRd l c (p + 1) m b tr tb) (hpRd l c (p + 1) m b tr tb) := by
    intro x hx
    exact ⟨by rw [hv, hx], Hsim.refl _⟩
  by_cases c1 : n < 1
  · refine good_true (decide_eq_true c1) (good_out (key _ ?_))
    rw [pkR, decide_eq_true c1]; rfl
  · refine good_false (decide_eq_false c1) ?_
    by_cases c2 : (l : Int) = 0
    · refine good_true (beq_iff_eq.2 c2) (good_out (key _ ?_))
      rw [pkR, decide_eq_false c1, beq_iff_eq.2 c2]; rfl
    · refine good_false (beq_eq_false_iff_ne.2 c2) ?_
      by_cases c3 : p < l
      · refine good_true (decide_eq_true c3) (good_needs ?_ (good_out (key _ ?_)))
        · simp only [ob_cons, ob_nil, and_true, decide_eq_true_eq, Bool.not_eq_true', decide_eq_false_iff_not]
          omega
        · rw [pkR, decide_eq_false c1, beq_eq_false_iff_ne.2 c2, decide_eq_true c3]; rfl
      · have e2 : IntKind.wrap IntKind.i64 (IntKind.wrap IntKind.i64 (p * 7) + 3) = p * 7 + 3 := by rw [wr_in (x := p * 7) (by omega), wr_in (by omega)]
        have a1 := tmod_in h3 (l := l) (by omega)
        have a2 := tmod_in (x := p * 7 + 3) (by omega) (l := l) (by omega)
        refine good_false (decide_eq_false c3) (good_needs ?_ (good_out (key _ ?_)))
        · simp only [ob_cons, ob_nil, and_true, decide_eq_true_eq, Bool.not_eq_true', decide_eq_false_iff_not, e2]
          omega
        · rw [pkR, decide_eq_false c1, beq_eq_false_iff_ne.2 c2, decide_eq_false c3]; rfl
theorem rd_sim {l m : Nat} {c : Option Nat} {p : Int} {tr tb : TypeId} {g : Nat → List Value} (h : okB m g = true) : Hsim [.cells [.sl 1 1 0 0 l c, .v (.int .i64 p)] tr, .row false m 1 g tb] (hpRd l c p m (itB g) tr tb) := .cons (ABeq.refl _) (.cons (ABeq.row fun _ hj => (okB_get h hj).1) .nil)
theorem rd_sim' {l m : Nat} {c : Option Nat} {p : Int} {tr tb : TypeId} {g : Nat → List Value} (h : okB m g = true) : Hsim (hpRd l c p m (itB g) tr tb) [.cells [.sl 1 1 0 0 l c, .v (.int .i64 p)] tr, .row false m 1 g tb] := .cons (ABeq.refl _) (.cons (ABeq.row fun _ hj => (okB_get h hj).1.symm) .nil)
theorem Hsim.trans' : ∀ {H H' H'' : List AB}, Hsim H H' → Hsim H' H'' → Hsim H H''
  | _, _, _, .nil, .nil => .nil
  | _, _, _, .cons h1 t1, .cons h2 t2 => .cons (ABeq.trans' h1 h2) (Hsim.trans' t1 t2)
theorem ok_pick : SpecOk Tryz.prog 32 (specK [] (FpkO pkV)) := by
  refine specK_ok g0_ok Tryz.func32 rfl fun avs H hr hF ho => ?_
  unfold FpkO at hF
  split at hF
  · rename_i n l c p tr m g tb
    cases hF
    simp only [ob_cons, decide_eq_true_eq] at ho
    obtain ⟨h1, h2, h3, h4, _⟩ := ho
    refine ⟨hpRd l c p m (itB g) tr tb, noLam, 100, rd_sim h1, noLam' _, ⟨res_mono (fun e vs He hq => ?_) (pick_good n (fun j hj => (okB_get h1 hj).2) h2 h3 h4).out⟩⟩
    exact ⟨hq.1, hq.2.trans' (rd_sim' h1)⟩
  · cases hF

end Go.Proofs.YtddhmidegldhdaaGreatDoor

/- The frame of a law over bytes. No conditions. -/
namespace Go.Proofs.YtddhmidegldhdaaGreatDoor
open Go.ChangeShapes Go.WideShapes Go.ChangeAt Go.RowKit Go.Deep
set_option maxRecDepth 100000

theorem okB_row {m : Nat} {b : Nat → Int} (h : ∀ j, j < m → 0 ≤ b j ∧ b j ≤ 255) : okB m (rowB b) = true := List.all_eq_true.2 fun j hj => by
  have := h j (by simpa using hj)
  show inR (b j) 0 255 = true
  exact inR_iff.2 this
section
variable {H : Type} {enc : TypeId × Value → H} {W : World}
theorem byte_elem (n : Nat) (cs : List Value) (x : DataW H × List MemPlace) (_ : cs.length = 1) (h : DataW.trod enc Tryz.prog W 0 (fun _ => true) true n 5 cs = some x) :
    ∃ f : Nat → Int, (0 ≤ f 0 ∧ f 0 ≤ 255) ∧ cs = [.int .u8 (f 0)] := by
  obtain ⟨k, e, _, hw⟩ := DataW.trod_int Tryz.underlying5 h
  unfold Lit.wf at hw
  rw [Bool.and_eq_true, decide_eq_true_eq, decide_eq_true_eq] at hw
  exact ⟨fun _ => k, hw, e⟩
end

theorem contractB {f : FuncId} {fn : Func} {spec : ChangeSpec} (hf : Tryz.prog.funcs[f]? = some fn) (hp : fn.params = #[22]) (hr : fn.resultTypes = #[4]) (hvars : spec.vars = []) (hspec : ∀ (H : Type) (d : DataW H), spec.fn H [d] = { results := [.lit (.bool true)], args := [d] })
    (yes : ∀ (m : Nat) (b : Nat → Int), m ≤ 9223372036854775807 → okB m (rowB b) = true → ∃ Γ n Λ, GamOk Tryz.prog Γ ∧ (∀ cc, fn.body = some cc → LamOk Tryz.prog 1 Λ cc) ∧ GoodQ (execF Tryz.prog Γ Λ n fn [.sl 0 1 0 0 m none] [.row false m 1 (rowB b) 5] (packK 1)) SaysYes)
    (H : Type) (enc : TypeId × Value → H) (W : World) (base : Nat) (args : Array Value) (ds gs : List (DataW H)) (before : List MemPlace)
    (hval : ∀ (j : Nat) t v, fn.params[j]? = some t → args[j]? = some v → Value.okWide Tryz.prog W .any base t v)
    (hW : DataW.Whole enc Tryz.prog fn.params.toList spec.vars false W args.toList ds gs before) (htab : TabOk (fun k => W.heap.size ≤ k) W := by intro x hx; simp [tabG] at hx) :
    Calls Tryz.prog f args W fun e W' => ∃ v, e = .returned v ∧ spec.post enc Tryz.prog fn false true false false W args v W' := by
  have hW' := hW
  obtain ⟨p, q, hA0, hV, rfl, hfz, hnd⟩ := hW
  have hA : DataW.TrodAll enc Tryz.prog W 0 (fun _ => true) true fn.params.toList args.toList ds p := hA0
  rw [hp] at hA hval
  rw [hvars] at hV
  obtain ⟨v0, vs0, d0, ds0, p0, q0, hargs, rfl, rfl, h0, r0⟩ := trodAll_cons hA
  obtain ⟨rfl, rfl, rfl⟩ := trodAll_nil r0
  obtain rfl : args = #[v0] := by cases args; simp_all
  obtain ⟨rfl, rfl⟩ := trodVars_none hV
  clear hA0 hA r0
  obtain ⟨m, ν, g, hm, hok, hvr, hRH, hdom⟩ := arg_row (H := H) Tryz.underlying22 (s := 1) (by kernel_rfl) Nat.one_pos (hval 0 22 v0 rfl rfl) h0 (fun f => [.int .u8 (f 0)]) (fun f => 0 ≤ f 0 ∧ f 0 ≤ 255) (fun f => ⟨rfl, by simp [Value.oneCell']⟩) byte_elem 5 htab
  obtain ⟨Γ, n, Λ, hΓ, hΛ, hgood⟩ := yes m (fun j => g j 0) hm (okB_row hok)
  have hcall := yes_calls hΓ (n := n) (vals := [v0]) (w := W) hf (Λ := Λ) (H := [.row false m 1 (rowB fun j => g j 0) 5]) hΛ hgood (by simp only [VRs, and_true]; exact hvr) hRH hdom
  refine hcall.mono fun e W' ⟨he, hb⟩ => ?_
  subst he
  have hlt : ∀ x ∈ p0, x.block < W.heap.size := fun x hx => by simpa using hW'.lt x (by simpa using hx)
  refine ⟨_, rfl, post_below (pa := p0) (pv := []) hW' ?_ ?_ ?_ (by simp) hb ?_⟩
  · intro b sp hd
    rw [hr]
    simp only [List.append_nil, hspec]
    exact trodAll_cons_mk (shut_bool Tryz.underlying4 _) trodAll_mk0
  · intro sp hsp
    rw [hp]
    simp only [List.append_nil, hspec]
    refine trodAll_mk1 (WideElems.Trod_stays laidOut (by kernel_rfl) (of_decide_eq_true (by kernel_rfl)) h0 (fun x hx => hb.same (hlt x hx)) fun x hx => hsp x (by simpa using hx))
  · intro sp _
    rw [hvars]
    simp only [List.append_nil, hspec]
    rfl
  · exact ok_one hr rfl (okWide_bool_mk Tryz.underlying4 _)

end Go.Proofs.YtddhmidegldhdaaGreatDoor

/- l91Cyc: its trees. Conditions: those of pick. -/
namespace Go.Proofs.YtddhmidegldhdaaGreatDoor
open Go.RowKit
set_option maxRecDepth 100000

end Go.Proofs.YtddhmidegldhdaaGreatDoor

/- The abstract machine, 28: loops whose table of callees goes by the round. Conditions: those of the tables. -/
namespace Go.Proofs.YtddhmidegldhdaaGreatDoor
open Go.RowKit

end Go.Proofs.YtddhmidegldhdaaGreatDoor

/- l91Cyc: an exact point, whatever the bytes are. Conditions: those of pick. -/
namespace Go.Proofs.YtddhmidegldhdaaGreatDoor
open Go.RowKit
set_option maxRecDepth 100000

theorem okB_it {m : Nat} {g : Nat → List Value} (h : okB m g = true) : okB m (rowB (itB g)) = true := List.all_eq_true.2 fun j hj => by
  have := List.all_eq_true.1 h j hj
  rwa [(okB_get h (by simpa using hj)).1] at this
end Go.Proofs.YtddhmidegldhdaaGreatDoor

/- l91Turn and l91Design: their trees. Conditions: those of pick. -/
namespace Go.Proofs.YtddhmidegldhdaaGreatDoor
open Go.RowKit
set_option maxRecDepth 100000

def gmPk (pk : Nat → (Nat → Int) → Int → Int → Int) : Gam := ext g0 32 (specK [] (FpkO pk))
end Go.Proofs.YtddhmidegldhdaaGreatDoor

/- l91Turn and l91Design: a number and a list of wheels, whatever the bytes are. Conditions: those of pick. -/
namespace Go.Proofs.YtddhmidegldhdaaGreatDoor
open Go.RowKit
set_option maxRecDepth 100000

end Go.Proofs.YtddhmidegldhdaaGreatDoor

/- What is drawn from bytes: the word of a drawing function. Conditions: bytes, at most 2^21. -/
namespace Go.Proofs.YtddhmidegldhdaaGreatDoor
open Go.RowKit
set_option maxRecDepth 100000

def md_co : List Md := [.rd 1 5]
def FdrO (R : Nat → (Nat → Int) → FR) : List SA → Option FR
  | [.row m g] => some { val := (R m (itB g)).val, new := (R m (itB g)).new, obl := [okB m g, decide (m ≤ 2 ^ 21)] }
  | _ => none
theorem draw_ok {f : FuncId} {fn : Func} {R : Nat → (Nat → Int) → FR} (hf : Tryz.prog.funcs[f]? = some fn) (hb : fn.body.isSome = true)
    (h1 : ∀ (m : Nat) (b : Nat → Int), 0 < m → m ≤ 2 ^ 21 → okB m (rowB b) = true → ∃ Γ, GamOk Tryz.prog Γ ∧ GoodQ (execF Tryz.prog Γ noLam 100 fn [.sl 0 1 0 0 m none] [.row false m 1 (rowB b) 5] (packK 1)) (GivR [.row false m 1 (rowB b) 5] (R m b)))
    (h0 : ∀ (q : Option Addr) (c : Nat) (g : Nat → List Value) (b : Nat → Int), ∃ Γ, GamOk Tryz.prog Γ ∧ GoodQ (execF Tryz.prog Γ noLam 100 fn [.v (.slice q 0 c)] [.row false 0 1 g 5] (packK 1)) (GivR [.row false 0 1 g 5] (R 0 b))) : SpecOk Tryz.prog f (specR md_co (FdrO R)) := by
  refine specR_calls enters hf hb fun sas fr hF ho => ?_
  unfold FdrO at hF
  split at hF
  · rename_i m g
    cases hF
    simp only [ob_cons, decide_eq_true_eq] at ho
    obtain ⟨e1, e2, _⟩ := ho
    by_cases hm : m = 0
    · subst hm
      refine ⟨[.row false 0 1 g 5], Hsim.refl _, fun M vals w ν hM hv hH hdom => ?_⟩
      have hv0 : VRs ν [.sl 0 1 0 0 0 none] vals := hv
      cases vals with
      | nil => simp only [VRs] at hv0
      | cons v vs =>
        cases vs with
        | cons => simp only [VRs] at hv0; exact hv0.2.elim
        | nil =>
          simp only [VRs, VR] at hv0
          obtain ⟨⟨q, c, rfl, _⟩, _⟩ := hv0
          obtain ⟨Γ, g1, g2⟩ := h0 q c g (itB g)
          have hv2 : VRs ν [.v (.slice q 0 c)] [.slice q 0 c] := by simp only [VRs, VR]; exact ⟨trivial, trivial⟩
          exact calls_pack g1 mixed enters hf (noLam' _) hM g2.out hv2 hH hdom
    · obtain ⟨Γ, g1, g2⟩ := h1 m (itB g) (by omega) e2 (okB_it e1)
      refine ⟨[.row false m 1 (rowB (itB g)) 5], .cons (ABeq.row fun j hj => (okB_get e1 hj).1) .nil, fun M vals w ν hM hv hH hdom => ?_⟩
      have g3 : GoodQ (execF Tryz.prog Γ noLam 100 fn [.sl 0 1 0 0 m none] [.row false m 1 (rowB (itB g)) 5] (packK 1)) (GivR (abP md_co [.row m g] []) { val := (R m (itB g)).val, new := (R m (itB g)).new, obl := [okB m g, decide (m ≤ 2 ^ 21)] }) :=
        ⟨res_mono (fun e vs He ⟨av, q1, q2, q3⟩ => ⟨av, q1, q2, q3.trans' (.cons (ABeq.row fun j hj => (okB_get e1 hj).1.symm) (Hsim.refl _))⟩) g2.out⟩
      exact calls_pack g1 mixed enters hf (noLam' _) hM g3.out hv hH hdom
  · cases hF

def lnB (m : Nat) : Nat := if 2000 < m then 2000 else m
end Go.Proofs.YtddhmidegldhdaaGreatDoor

/- What is drawn: lists of wheels, and numbers. No conditions. -/
namespace Go.Proofs.YtddhmidegldhdaaGreatDoor
open Go.RowKit
set_option maxRecDepth 100000

theorem ln_cut {m : Nat} (h : (m : Int) > 2000) : lnB m = 2000 := by unfold lnB; rw [if_pos (by omega)]
theorem ln_all {m : Nat} (h : ¬ (m : Int) > 2000) : lnB m = m := by unfold lnB; rw [if_neg (by omega)]
theorem good_ln {m : Nat} {Q : Ex → List AV → List AB → Prop} {ob1 ob2 : List Bool} {r1 r2 : Res}
    (h1 : lnB m = 2000 → (m : Int) > 2000 → obls ob1 = true ∧ GoodQ r1 Q) (h2 : lnB m = m → (m : Int) ≤ 2000 → obls ob2 = true ∧ GoodQ r2 Q) : GoodQ (bif decide ((m : Int) > 2000) then needs ob1 r1 else needs ob2 r2) Q := by
  refine good_cond (fun c => ?_) fun c => ?_
  · have c := of_decide_eq_true c
    exact good_needs (h1 (ln_cut c) c).1 (h1 (ln_cut c) c).2
  · have c := of_decide_eq_false c
    exact good_needs (h2 (ln_all c) (by omega)).1 (h2 (ln_all c) (by omega)).2

end Go.Proofs.YtddhmidegldhdaaGreatDoor

/- Helpers of the laws that draw. No conditions. -/
namespace Go.Proofs.YtddhmidegldhdaaGreatDoor
open Go.RowKit
set_option maxRecDepth 100000

theorem listW_me (L : List Wh) : listW (itW (row9 (wfun L))) L.length = L := listW_self L _ rfl
theorem say {c : Bool} {H : List AB} (h : c = true) : GoodQ (.out .ret [.v (.bool c)] H) SaysYes := by
  subst h
  exact good_out rfl
theorem b38 {n : Nat} (h : n ≤ 12) : decide (n ≤ 274877906944) = true := decide_eq_true (by omega)
theorem eqL_me (L : List Wh) : eqL L L = true := decide_eq_true rfl
theorem isTidy_nil : isTidy [] := ⟨List.Pairwise.nil, fun w hw => by simp at hw, rfl⟩
theorem yI_self {T : List Wh} (h : isTidy T) : yI T = true := by
  rw [yI, tidy_okD h, okT_self h]
  rfl
theorem tI_self {T : List Wh} (h : isTidy T) : tI T = T := by
  rw [tI, yI_self h, cond_true, tidyL_self h]
end Go.Proofs.YtddhmidegldhdaaGreatDoor

/- What is written is read back; both sides read the same. Plain. No conditions. -/
namespace Go.Proofs.YtddhmidegldhdaaGreatDoor
open Go.RowKit
set_option maxRecDepth 100000

theorem bytes_ext {a b : ByteArray} (h : a.data.toList = b.data.toList) : a = b := by
  cases a; cases b
  congr 1
  exact Array.ext' h
theorem map_bytes {ws : List ByteArray} {xs : List (List UInt8)} (h : ws.map (·.data.toList) = xs) : ws = xs.map fun l => ⟨l.toArray⟩ := by
  subst h
  rw [List.map_map]
  symm
  exact (List.map_congr_left (g := id) fun b _ => bytes_ext rfl).trans (List.map_id _)

theorem spB_cuC (s : ByteArray) (c : UInt8) : spB s (ByteArray.mk (Array.mk [c])) = (cuC c s.data.toList).map fun l => ⟨l.toArray⟩ := by
  refine map_bytes ?_
  rw [spB, Lib.splitB_data]
  exact splitK_cuC _ _ (Lib.count_one c _).symm

def valD (l : List UInt8) : Int := l.foldl (fun a b => 10 * a + ((b.toNat : Int) - 48)) 0
theorem valD_snoc (l : List UInt8) (b : UInt8) : valD (l ++ [b]) = 10 * valD l + ((b.toNat : Int) - 48) := by
  rw [valD, List.foldl_append]
  rfl
theorem valD_digits (u : Nat) : valD (Lib.decDigits u) = u := by
  induction u using Nat.strongRecOn with
  | _ u ih =>
    have e : ∀ k, k < 10 → ((UInt8.ofNat (48 + k)).toNat : Int) - 48 = k := fun k hk => by
      rw [UInt8.toNat_ofNat']
      omega
    rw [Lib.decDigits]
    split
    · rename_i h
      have := valD_snoc [] (UInt8.ofNat (48 + u))
      rw [List.nil_append] at this
      rw [this, e u h]
      show 10 * valD [] + (u : Int) = u
      rw [show valD [] = 0 from rfl]
      omega
    · rw [valD_snoc, ih (u / 10) (by omega), e _ (Nat.mod_lt _ (by omega))]
      omega
end Go.Proofs.YtddhmidegldhdaaGreatDoor

/- Scripts: plain. Texts cut at lines and words; numerals. No program, no conditions. -/
namespace Go.Proofs.YtddhmidegldhdaaGreatDoor
open Go.RowKit
set_option maxRecDepth 100000

def numV : List UInt8 → Int
  | 45 :: l => - valD l
  | l => valD l
def dig4 (l : List UInt8) : Bool := decide (1 ≤ l.length) && decide (l.length ≤ 4) && l.all fun b => decide (48 ≤ b.toNat) && decide (b.toNat ≤ 57)
def numG : List UInt8 → Bool
  | 45 :: l => dig4 l
  | l => dig4 l
theorem decDigits_len : ∀ (k u : Nat), u < 10 ^ k → 1 ≤ k → (Lib.decDigits u).length ≤ k
  | 0, _, _, h => absurd h (by omega)
  | 1, u, h, _ => by
    rw [Lib.decDigits, dif_pos (by omega)]
    exact Nat.le_refl _
  | k + 2, u, h, _ => by
    rw [Lib.decDigits]
    split
    · show 1 ≤ k + 2
      omega
    · rw [List.length_append]
      have := decDigits_len (k + 1) (u / 10) (by rw [Nat.pow_succ] at h; omega) (by omega)
      show _ + 1 ≤ _
      omega
theorem digU_all {l : List UInt8} (h : ∀ b ∈ l, digU b) : (l.all fun b => decide (48 ≤ b.toNat) && decide (b.toNat ≤ 57)) = true :=
  List.all_eq_true.2 fun b hb => by
    have := h b hb
    unfold digU at this
    rw [decide_eq_true this.1, decide_eq_true this.2]
    rfl
theorem dig4_dec {u : Nat} (h : u < 10000) : dig4 (Lib.decDigits u) = true := by
  have h1 := decDigits_len 4 u h (by omega)
  have h2 : 1 ≤ (Lib.decDigits u).length := by
    rcases Nat.eq_zero_or_pos (Lib.decDigits u).length with h | h
    · exact absurd (List.length_eq_zero_iff.1 h) (decDigits_ne u)
    · exact h
  rw [dig4, decide_eq_true h2, decide_eq_true h1, digU_all (decDigits_dig u)]
  rfl
theorem num_itoa {n : Int} (h : -10000 < n ∧ n < 10000) : numG (Lib.itoa n) = true ∧ numV (Lib.itoa n) = n := by
  rw [Lib.itoa]
  split
  · show dig4 (Lib.decDigits _) = true ∧ - valD (Lib.decDigits _) = n
    rw [dig4_dec (by omega), valD_digits]
    exact ⟨rfl, by omega⟩
  · have hd := decDigits_dig n.toNat
    have hg := dig4_dec (u := n.toNat) (by omega)
    have hv := valD_digits n.toNat
    generalize Lib.decDigits n.toNat = l at *
    have e1 : ∀ l : List UInt8, (∀ b ∈ l, digU b) → numG l = dig4 l ∧ numV l = valD l := fun l h => by
      match l with
      | [] => exact ⟨rfl, rfl⟩
      | b :: l =>
        have hb := h b List.mem_cons_self
        unfold digU at hb
        have : b ≠ 45 := fun e => by subst e; simp at hb
        refine ⟨?_, ?_⟩
        · unfold numG
          split
          · rename_i e; simp only [List.cons.injEq] at e; exact absurd e.1 this
          · rfl
        · unfold numV
          split
          · rename_i e; simp only [List.cons.injEq] at e; exact absurd e.1 this
          · rfl
    rw [(e1 l hd).1, (e1 l hd).2, hg, hv]
    exact ⟨rfl, by omega⟩
def ringW (c : Bool) : List UInt8 := bif c then [105, 110] else [111, 117, 116]
def ringR (a b d : Int) : List UInt8 := Lib.itoa a ++ 32 :: (Lib.itoa b ++ 32 :: Lib.itoa d)
def ringL (a b : Int) (c : Bool) (d : Int) : List UInt8 := ringW c ++ 32 :: ringR a b d
def showL : List UInt8 := [115, 104, 111, 119]
def ringS (a b : Int) (c : Bool) (d : Int) : List UInt8 := ringL a b c d ++ 10 :: (showL ++ 10 :: [])
theorem ringW_free (c : Bool) : (32 : UInt8) ∉ ringW c ∧ (10 : UInt8) ∉ ringW c := by cases c <;> exact ⟨by decide, by decide⟩
theorem sp_free (n : Int) : (32 : UInt8) ∉ Lib.itoa n := itoa_free ⟨by decide, .inl (by decide)⟩ n
theorem nl_free (n : Int) : (10 : UInt8) ∉ Lib.itoa n := itoa_free ⟨by decide, .inl (by decide)⟩ n
theorem ringR_cut (a b d : Int) : cuC 32 (ringR a b d) = [Lib.itoa a, Lib.itoa b, Lib.itoa d] := by
  rw [ringR, cuC_app _ _ (sp_free a), cuC_app _ _ (sp_free b), cuC_free _ (sp_free d)]
theorem ringL_free (a b : Int) (c : Bool) (d : Int) : (10 : UInt8) ∉ ringL a b c d := by
  unfold ringL ringR
  simp only [List.mem_append, List.mem_cons, not_or]
  exact ⟨(ringW_free c).2, by decide, nl_free a, by decide, nl_free b, by decide, nl_free d⟩
theorem ringS_cut (a b : Int) (c : Bool) (d : Int) : cuC 10 (ringS a b c d) = [ringL a b c d, showL, []] := by
  rw [ringS, cuC_app _ _ (ringL_free a b c d), cuC_app _ _ (by decide), cuC]
theorem ringL_cut (a b : Int) (c : Bool) (d : Int) : Lib.cut (ringL a b c d) [32] = (ringW c, ringR a b d, true) := cut_app (ringW_free c).1
theorem show_cut : Lib.cut showL [32] = (showL, [], false) := cut_free (by decide)

end Go.Proofs.YtddhmidegldhdaaGreatDoor

/- A number of a script, read by the program: told, or a panic. Conditions: the text's length. -/
namespace Go.Proofs.YtddhmidegldhdaaGreatDoor
open Go.RowKit Go.Shelf
set_option maxRecDepth 100000

def Tryz.laysCP_ren : Go.Shelf.Ren := ⟨fun | 103 => 284 | 210 => 316 | 206 => 302 | n => n, fun | 9 => 9 | 4 => 4 | 24 => 29 | 3 => 3 | n => n, fun | n => n⟩
theorem Tryz.laysCP : Go.Proofs.Lays.n103 Tryz.prog Tryz.laysCP_ren := {
  mixed := by kernel_rfl
  f103 := Tryz.func284.trans (congrArg some (by kernel_rfl))
  f206 := Tryz.func302.trans (congrArg some (by kernel_rfl))
  f210 := Tryz.func316.trans (congrArg some (by kernel_rfl))
  t3 := Tryz.underlying3
  a3 := Tryz.isAgg3
  z3 := Tryz.sizeOf3
  v3 := Tryz.zeroValue3
  t4 := Tryz.underlying4
  a4 := Tryz.isAgg4
  z4 := Tryz.sizeOf4
  v4 := Tryz.zeroValue4
  t9 := Tryz.underlying9
  a9 := Tryz.isAgg9
  z9 := Tryz.sizeOf9
  v9 := Tryz.zeroValue9
  t24 := Tryz.underlying29
  a24 := Tryz.isAgg29
  z24 := Tryz.sizeOf29
  v24 := Tryz.zeroValue29 }

theorem num_trim (l : List UInt8) : numG l = dig4 (Lib.trimPrefix l [45]) ∧ numV l = bif Lib.hasPrefix l [45] then - valD (Lib.trimPrefix l [45]) else valD (Lib.trimPrefix l [45]) := by
  match l with
  | [] => exact ⟨rfl, rfl⟩
  | b :: l =>
    by_cases h : b = 45
    · subst h
      have e : Lib.hasPrefix (45 :: l) [45] = true := rfl
      unfold Lib.trimPrefix
      rw [e]
      exact ⟨rfl, rfl⟩
    · have e : Lib.hasPrefix (b :: l) [45] = false := by
        show (((45 : UInt8) == b) && _) = false
        rw [beq_eq_false_iff_ne.2 (Ne.symm h)]
        rfl
      unfold Lib.trimPrefix
      rw [e]
      refine ⟨?_, ?_⟩
      · unfold numG
        split
        · rename_i q
          simp only [List.cons.injEq] at q
          exact absurd q.1 h
        · rfl
      · unfold numV
        split
        · rename_i q
          simp only [List.cons.injEq] at q
          exact absurd q.1 h
        · rfl
theorem fr_bytes (w : World) (e : TypeId) (s : ByteArray) : Fr (nwM w) w (Lib.bytesWorld w e s) := ⟨rfl, rfl, rfl, by rw [Lib.bytesWorld_size]; omega, fun k hk _ => Lib.bytesWorld_at_old w e s k hk⟩
def digB (b : UInt8) : Bool := decide (48 ≤ b.toNat) && decide (b.toNat ≤ 57)
theorem vd_bound {l : List UInt8} (h : l.all digB = true) (hl : l.length ≤ 4) : 0 ≤ valD l ∧ valD l < 10000 := by
  have key : ∀ (l : List UInt8) (a : Int), 0 ≤ a → l.all digB = true → 0 ≤ l.foldl (fun a b => 10 * a + ((b.toNat : Int) - 48)) a ∧ l.foldl (fun a b => 10 * a + ((b.toNat : Int) - 48)) a < (a + 1) * 10 ^ l.length := by
    intro l
    induction l with
    | nil => intro a h0 _; exact ⟨h0, by simp; omega⟩
    | cons b l ih =>
      intro a h0 h
      rw [List.all_cons, Bool.and_eq_true] at h
      obtain ⟨hb, h⟩ := h
      unfold digB at hb
      rw [Bool.and_eq_true, decide_eq_true_eq, decide_eq_true_eq] at hb
      obtain ⟨q1, q2⟩ := ih (10 * a + ((b.toNat : Int) - 48)) (by omega) h
      rw [List.foldl_cons]
      refine ⟨q1, Int.lt_of_lt_of_le q2 ?_⟩
      rw [List.length_cons, Int.pow_succ, Int.mul_comm (10 ^ l.length : Int) 10, ← Int.mul_assoc]
      exact Int.mul_le_mul_of_nonneg_right (by omega) (Int.le_of_lt (Int.pow_pos (by omega)))
  obtain ⟨h1, h2⟩ := key l 0 (Int.le_refl _) h
  refine ⟨h1, Int.lt_of_lt_of_le h2 ?_⟩
  rw [Int.zero_add, Int.one_mul]
  match l, hl with
  | [], _ => simp
  | [_], _ => simp
  | [_, _], _ => simp
  | [_, _, _], _ => simp
  | [_, _, _, _], _ => simp
set_option maxHeartbeats 4000000 in
theorem calls_num (s : ByteArray) (w : World) (ht : TabOk (nwM w) w) (hsz : s.size ≤ 1099511627776) : Calls Tryz.prog 219 #[.string s] w fun e w' => (bif numG s.data.toList then e = .returned (i64 (numV s.data.toList)) else e = diesE) ∧ Fr (nwM w) w w' := by
  have mixed := mixed
  have hcp := Any.strings_CutPrefix Tryz.laysCP s ⟨#[45]⟩ w
  obtain ⟨n1, n2⟩ := num_trim s.data.toList
  rw [n1, n2]
  have e45 : (ByteArray.mk #[45]).data.toList = [45] := rfl
  rw [e45] at hcp
  have hlen : (Lib.trimPrefix s.data.toList [45]).length ≤ s.data.toList.length := by
    unfold Lib.trimPrefix
    split
    · rw [List.length_drop]; omega
    · exact Nat.le_refl _
  have hsl : s.data.toList.length = s.size := by rw [Array.length_toList]; rfl
  generalize Lib.trimPrefix s.data.toList [45] = d at *
  generalize Lib.hasPrefix s.data.toList [45] = q at *
  have hdg : dig4 d = (inR d.length 1 4 && d.all digB) := by
    unfold dig4 inR digB
    congr 1
    rw [Bool.eq_iff_iff]
    simp only [Bool.and_eq_true, decide_eq_true_eq]
    omega
  rw [hdg]
  clear hdg
  have hsz2 : (ByteArray.mk d.toArray).size = d.length := by simp [ByteArray.size]
  go_enter Tryz.func219, Tryz.ntmps219
  go_wp2_with (go_at_call 284; refine hcp.mono ?_; rintro e w' ⟨rfl, rfl⟩)
  have hwi : Calls Tryz.prog 35 #[i64 d.length, i64 1, i64 4] w' (VPost w' (.bool (inR d.length 1 4))) := v_v ok_within [i64 d.length, i64 1, i64 4] rfl rfl rfl rfl rfl ht
  clear hcp n1 n2 e45
  cases hw : inR (d.length : Int) 1 4 with
  | false =>
    rw [hw] at hwi
    go_wp2_with (first | (go_at_call 35; refine hwi.mono ?_; rintro e w1 ⟨rfl, f1⟩) | (go_at_call 157; refine (must_no _).mono ?_; rintro e w2 ⟨rfl, rfl⟩))
    refine ⟨rfl, ?_, f1⟩
    rw [hw]
    rfl
  | true =>
    rw [hw] at hwi
    have hl4 : d.length ≤ 4 := by
      unfold inR at hw
      simp only [Bool.and_eq_true, decide_eq_true_eq] at hw
      omega
    have t9 : Tryz.prog.underlying 9 = some .string := by kernel_rfl
    have t22 : Tryz.prog.underlying 22 = some (.slice 5) := by kernel_rfl
    have t5 : Tryz.prog.underlying 5 = some (.int .u8) := by kernel_rfl
    go_wp2_with (first | (go_at_call 35; refine hwi.mono ?_; rintro e w1 ⟨rfl, f1⟩) | (go_at_call 157; refine (must_ok _).mono ?_; rintro e w2 ⟨rfl, rfl⟩))
    have hcv := Lib.run_convert_string_bytes w2 9 22 5 ⟨d.toArray⟩ t9 t22 t5
    have fW : Fr (nwM w') w' (Lib.bytesWorld w2 5 ⟨d.toArray⟩) := f1.trans ((fr_bytes w2 _ _).mono fun k _ hk => Nat.le_trans f1.size hk)
    have hcell : ∀ j, j < d.length → (Lib.bytesWorld w2 5 ⟨d.toArray⟩).cell? ⟨w2.heap.size, j, none⟩ = some (.int .u8 (d.getD j 0).toNat) := fun j hj => Lib.bytesWorld_cell w2 _ ⟨d.toArray⟩ j (by rw [hsz2]; exact hj)
    rw [hsz2] at hcv
    generalize Lib.bytesWorld w2 5 ⟨d.toArray⟩ = W at *
    generalize grownCap w2 d.length 0 5 = cap at *
    have u22 := run_underlying t22
    rw [hcv]
    clear hcv
    go_wp2
    go_loop [5, 20] (fun n i => ∃ k : Nat, k ≤ d.length ∧ i = .int .i64 k ∧ n = .int .i64 (valD (d.take k)) ∧ (d.take k).all digB = true) (fun _ i => d.length - (intOf i).toNat)
    case atStart => exact ⟨0, Nat.zero_le _, rfl, rfl, rfl⟩
    case round =>
      obtain ⟨k, hk, rfl, rfl, hp⟩ := hrel
      obtain ⟨hv0, hv1⟩ := vd_bound hp (by rw [List.length_take]; omega)
      obtain ⟨v, hv⟩ : ∃ v, v = valD (d.take k) := ⟨_, rfl⟩
      rw [← hv] at hv0 hv1 ⊢
      by_cases hlt : k < d.length
      · have hc := hcell k hlt
        have hbg : d.getD k 0 = d[k] := by simp [hlt]
        have htk : d.take (k + 1) = d.take k ++ [d[k]] := List.take_succ_eq_append_getElem hlt
        have hal : d.all digB = true → digB d[k] = true := fun h => List.all_eq_true.1 h _ (List.getElem_mem hlt)
        rw [hbg] at hc
        have fin1 : digB d[k] = true → (d.take (k + 1)).all digB = true ∧ valD (d.take (k + 1)) = 10 * v + ((d[k].toNat : Int) - 48) := fun hb => by
          rw [htk, List.all_append, hp, valD_snoc, ← hv]
          exact ⟨by simp [hb], rfl⟩
        generalize d[k] = b at *
        have fin2 : digB b = false → d.all digB = false := fun hb => by
          cases h : d.all digB with
          | false => rfl
          | true => rw [hal h] at hb; cases hb
        have hz : d.length < 9223372036854775807 := by omega
        clear hcell hv hp hbg htk hal ht hwi
        by_cases h1 : 48 ≤ b.toNat
        · have d1 : (48 : Int) ≤ b.toNat := by omega
          by_cases h2 : b.toNat ≤ 57
          · have d2 : (b.toNat : Int) ≤ 57 := by omega
            obtain ⟨k1, k2⟩ := fin1 (by unfold digB; rw [decide_eq_true h1, decide_eq_true h2]; rfl)
            clear fin1 fin2
            go_wp2_with fail
            refine (must_ok _).mono ?_
            rintro e w3 ⟨rfl, rfl⟩
            clear f1 fW
            generalize hX : valD (d.take (k + 1)) = X at *
            generalize hY : (d.take (k + 1)).all digB = Y at *
            go_wp2_with fail
            refine ⟨⟨k + 1, by omega, by simp, ?_, ?_⟩, by simp [intOf]; omega⟩
            · rw [hX, k2]
            · rw [hY, k1]
          · have d2 : ¬ (b.toNat : Int) ≤ 57 := by omega
            have k1 := fin2 (by unfold digB; rw [decide_eq_false h2, Bool.and_false])
            clear fin1 fin2
            go_wp2_with fail
            refine (must_no _).mono ?_
            rintro e w3 ⟨rfl, rfl⟩
            refine ⟨rfl, ?_, fW⟩
            rw [k1, Bool.and_false]
            rfl
        · have d1 : ¬ (48 : Int) ≤ b.toNat := by omega
          have k1 := fin2 (by unfold digB; rw [decide_eq_false h1, Bool.false_and])
          clear fin1 fin2
          go_wp2_with fail
          refine (must_no _).mono ?_
          rintro e w3 ⟨rfl, rfl⟩
          refine ⟨rfl, ?_, fW⟩
          rw [k1, Bool.and_false]
          rfl
      · have hkd : k = d.length := by omega
        rw [hkd, List.take_length] at hp hv
        have hz : d.length < 9223372036854775807 := by omega
        clear hcell ht hwi
        cases q with
        | false =>
          go_wp2_with fail
          go_ret
          exact ⟨rfl, fW⟩
        | true =>
          go_wp2_with fail
          go_ret
          exact ⟨rfl, fW⟩
end Go.Proofs.YtddhmidegldhdaaGreatDoor

/- Numbers of a rest, read by the program: so many, or a panic. Conditions: the text's length; at most three. -/
namespace Go.Proofs.YtddhmidegldhdaaGreatDoor
open Go.RowKit Go.Shelf
set_option maxRecDepth 100000

def numsG (k : Nat) (r : List UInt8) : Bool := Nat.beq (cuC 32 r).length k && (cuC 32 r).all numG
def numAt (r : List UInt8) (i : Nat) : Int := numV ((cuC 32 r).getD i [])
theorem fr_grown {w w' : World} {row : Option Nat} (h : w.grownBy w' row) {M : Nat → Prop} (hM : ∀ k, row = some k → M k) : Fr M w w' :=
  ⟨h.os, h.tape, h.output, h.size, fun k hk hm => h.block k hk fun e => hm (hM k e.symm)⟩
theorem nw_trans {a b c : World} (h : Fr (nwM a) a b) (k : Fr (nwM b) b c) : Fr (nwM a) a c := h.trans (k.mono fun i _ hi => Nat.le_trans h.size hi)
theorem nw_grown {a b : World} (h : Fr (nwM a) a b) : a.grownBy b none := ⟨h.os, h.tape, h.output, h.size, fun k hk _ => h.block k hk (Nat.not_le.2 hk)⟩
theorem all_take {α : Type} {p : α → Bool} {l : List α} {k : Nat} (h : (l.take k).all p = true) (hk : k < l.length) : (l.take (k + 1)).all p = p l[k] := by
  rw [List.take_succ_eq_append_getElem hk, List.all_append, h]
  simp
theorem all_false {α : Type} {p : α → Bool} {l : List α} {k : Nat} (hk : k < l.length) (h : p l[k] = false) : l.all p = false := by
  cases e : l.all p with
  | false => rfl
  | true => rw [List.all_eq_true.1 e _ (List.getElem_mem hk)] at h; cases h
theorem info_int : (Tryz.prog.info? 3).map (fun i => (i.zero, i.size, i.bytes)) = some (some (.int .i64 0), 1, 8) := by kernel_rfl
theorem cuC_sizes {c : UInt8} : ∀ (l : List UInt8), ∀ x ∈ cuC c l, x.length ≤ l.length := by
  intro l
  induction l with
  | nil => intro x hx; simp [cuC] at hx; subst hx; exact Nat.le_refl _
  | cons b l ih =>
    intro x hx
    unfold cuC at hx
    rw [List.length_cons]
    split at hx
    · rcases List.mem_cons.1 hx with rfl | hx
      · exact Nat.zero_le _
      · have := ih x hx
        omega
    · split at hx
      · rename_i y ys e
        rcases List.mem_cons.1 hx with rfl | hx
        · have := ih y (by rw [e]; exact List.mem_cons_self)
          rw [List.length_cons]
          omega
        · have := ih x (by rw [e]; exact List.mem_cons_of_mem _ hx)
          omega
      · rw [List.mem_singleton] at hx
        subst hx
        simp
theorem split_world {w w1 : World} {ws : List (List UInt8)} {t : TypeId} (h : w1 = w.alloc (.cells ((ws.map fun l => (⟨l.toArray⟩ : ByteArray)).map Value.string).toArray t)) : Fr (nwM w) w w1 ∧ w.heap.size < w1.heap.size ∧ ∀ j (hj : j < ws.length), w1.cell? ⟨w.heap.size, j, none⟩ = some (.string ⟨ws[j].toArray⟩) := by
  subst h
  refine ⟨⟨rfl, rfl, rfl, by simp, fun k hk _ => Below.heap_alloc _ _ _ hk⟩, by simp, fun j hj => ?_⟩
  have hal : (w.alloc (.cells ((ws.map fun l => (⟨l.toArray⟩ : ByteArray)).map Value.string).toArray t)).heap[w.heap.size]? = some (.cells ((ws.map fun l => (⟨l.toArray⟩ : ByteArray)).map Value.string).toArray t) := World.alloc_heap_new w _
  unfold World.cell?
  simp only
  rw [hal]
  simp [hj]
set_option maxHeartbeats 4000000 in
theorem calls_nums (s : ByteArray) (n : Nat) (hn : n ≤ 3) (w : World) (ht : TabOk (nwM w) w) (hsz : s.size < 4294967281) : Calls Tryz.prog 152 #[.string s, i64 n] w fun e w' =>
    (bif numsG n s.data.toList then ∃ g, w.heap.size ≤ g ∧ e = .returned (.slice (some ⟨g, 0, none⟩) n n) ∧ w'.heap[g]? = some (.cells ((cuC 32 s.data.toList).map fun x => i64 (numV x)).toArray 3 (0, 0)) else e = diesE) ∧ Fr (nwM w) w w' := by
  have mixed := mixed
  obtain ⟨m, hm⟩ := tab_num ht
  have hsp := Any.strings_Split { Tryz.laysSplit with } Tryz.laysSplit.i9 s ⟨#[32]⟩ m w hsz hm (by decide)
  have hl := spB_length s ⟨#[32]⟩ (by decide)
  have hcu := spB_cuC s 32
  rw [show Lib.splitB ⟨#[32]⟩ 0 (Lib.countB s ⟨#[32]⟩) s = spB s ⟨#[32]⟩ from rfl, ← hl, hcu, List.length_map] at hsp
  have hszs : ∀ x ∈ cuC 32 s.data.toList, x.length ≤ 1099511627776 := fun x hx => by
    have := cuC_sizes _ x hx
    have e : s.data.toList.length = s.size := by rw [Array.length_toList]; rfl
    omega
  unfold numsG
  clear hm hl hcu
  generalize cuC 32 s.data.toList = ws at *
  have t3 : Tryz.prog.underlying 3 = some (.int .i64) := by kernel_rfl
  have t187 : Tryz.prog.underlying 187 = some (.slice 3) := by kernel_rfl
  have t71 : Tryz.prog.underlying 71 = some (.slice 9) := by kernel_rfl
  obtain ⟨i0, hi, hz0, hz1, hz2⟩ := info_parts info_int
  have hbq : ((ws.length : Int) == (n : Int)) = Nat.beq ws.length n := by
    rw [Bool.eq_iff_iff]
    simp
    omega
  go_enter Tryz.func152, Tryz.ntmps152
  go_wp2_with (go_at_call 45; refine hsp.mono ?_; rintro e w1 ⟨rfl, hw1⟩; obtain ⟨f1, z1, c1⟩ := split_world hw1; clear hw1)
  clear hsp hbq
  cases hq : Nat.beq ws.length n with
  | false =>
    refine (must_no _).mono ?_
    rintro e w2 ⟨rfl, rfl⟩
    exact ⟨rfl, by rw [hq]; rfl, f1⟩
  | true =>
    have hln : ws.length = n := Nat.eq_of_beq_eq_true hq
    refine (must_ok _).mono ?_
    rintro e w2 ⟨rfl, rfl⟩
    go_wp2_with (at_make; refine wpList_make_own _ rfl _ _ 187 rfl w2.heap.size 3 i0 (.int .i64 0) 1 t187 hi hz0 hz1 .i64 .i64 n n rfl rfl rfl (by rw [hz2]; omega) (by unfold maxLen; omega) (Nat.le_refl _) ?_)
    intro w3 hown hgr
    have f3 : Fr (nwM w) w w3 := f1.trans (fr_grown hgr fun k e => by cases e)
    have c3 : ∀ j (hj : j < ws.length), w3.cell? ⟨w.heap.size, j, none⟩ = some (.string ⟨ws[j].toArray⟩) := fun j hj => (World.cell?_of_block (a := ⟨w.heap.size, j, none⟩) (hgr.block _ z1 (by simp))).trans (c1 j hj)
    have z3 : w.heap.size < w3.heap.size := Nat.lt_of_lt_of_le z1 hgr.size
    obtain ⟨G, hG⟩ : ∃ G, G = w2.heap.size := ⟨_, rfl⟩
    have hGz : w.heap.size < G := by omega
    rw [← hG] at hown ⊢
    clear c1 f1 hgr hG
    go_wp2
    go_loopw [6, 20] (fun v i wr => ∃ k : Nat, k ≤ n ∧ i = .int .i64 k ∧ v = .slice (some ⟨G, 0, none⟩) k n ∧ wr.ownsRow G 3 1 (.slice (some ⟨G, 0, none⟩) k n) k ((ws.map fun x => i64 (numV x)).take k) ∧ (ws.take k).all numG = true ∧ Fr (nwM w) w wr ∧ w.heap.size < wr.heap.size ∧ ∀ j (hj : j < ws.length), wr.cell? ⟨w.heap.size, j, none⟩ = some (.string ⟨ws[j].toArray⟩)) (fun _ i _ => n - (intOf i).toNat)
    case atStart => exact ⟨0, Nat.zero_le _, rfl, rfl, hown, rfl, f3, z3, c3⟩
    case round =>
      obtain ⟨k, hk, rfl, rfl, hown, hp, fr, zr, cr⟩ := hrel
      by_cases hlt : k < n
      · have hkw : k < ws.length := by omega
        have hc := cr k hkw
        have hnum := calls_num ⟨ws[k].toArray⟩ wr ((ht.fr fr).mono fun i _ hi => Nat.le_trans fr.size hi) (by rw [mkS_size]; exact hszs _ (List.getElem_mem hkw))
        rw [show (ByteArray.mk ws[k].toArray).data.toList = ws[k] from rfl] at hnum
        have hal := all_take (p := numG) hp hkw
        have hfal := all_false (p := numG) (l := ws) hkw
        have htk : ((ws.map fun x => i64 (numV x)).take k) ++ [i64 (numV ws[k])] = (ws.map fun x => i64 (numV x)).take (k + 1) := by
          rw [List.take_succ_eq_append_getElem (by rw [List.length_map]; exact hkw), List.getElem_map]
        have hln2 : (ws.length : Int) < 9223372036854775807 := by omega
        have hlt2 : (k : Int) < ws.length := by omega
        clear ht hszs c3 f3 z3
        generalize ws[k] = x at *
        cases hx : numG x with
        | false =>
          rw [hx] at hnum
          have hfx := hfal hx
          clear hal hfal htk hp hown cr
          go_wp2_with (go_at_call 219; refine hnum.mono ?_; rintro e w4 ⟨he, f4⟩; obtain rfl := he)
          refine ⟨rfl, ?_, nw_trans fr f4⟩
          rw [hfx, Bool.and_false]
          rfl
        | true =>
          rw [hx] at hnum hal
          clear hfal hp
          have next : ∀ (w4 w5 : World), Fr (nwM wr) wr w4 → (w4.alloc (.cells #[i64 (numV x)] 3)).grownBy w5 (some G) → Fr (nwM w) w w5 ∧ w.heap.size < w5.heap.size ∧ ∀ j (hj : j < ws.length), w5.cell? ⟨w.heap.size, j, none⟩ = some (.string ⟨ws[j].toArray⟩) := fun w4 w5 h4 h5 => by
            have g4 := World.grownBy_alloc w4 (.cells #[i64 (numV x)] 3) none
            have z4 := h4.size
            have z5 := g4.size
            refine ⟨(nw_trans fr h4).trans ((fr_grown g4 (M := nwM w) fun k e => by cases e).trans (fr_grown h5 fun k e => by cases e; exact Nat.le_of_lt hGz)), Nat.lt_of_lt_of_le zr (Nat.le_trans z4 (Nat.le_trans z5 h5.size)), fun j hj => ?_⟩
            refine (World.cell?_of_block ?_).trans (cr j hj)
            exact (h5.block _ (Nat.lt_of_lt_of_le zr (Nat.le_trans z4 z5)) (by simp; omega)).trans ((g4.block _ (Nat.lt_of_lt_of_le zr z4) (by simp)).trans (h4.block _ zr (Nat.not_le.2 zr)))
          clear cr
          go_wp2_with (first | (go_at_call 219; refine hnum.mono ?_; rintro e w4 ⟨he, f4⟩; obtain rfl := he) | (at_builtin; refine wpList_append_fits _ rfl _ _ 187 rfl G 3 i0 1 t187 hi hz1 G k n _ rfl ((hown.kept (nw_grown ‹_›) (by simp [Value.ownBlock])).alloc _) ⟨_, 0, none⟩ 1 1 [i64 (numV x)] rfl rfl ?c1 ?c2 ?c3 ?_))
          case c1 =>
            intro j u hj
            match j, hj with
            | 0, hj => simp at hj; subst hj; simp [Addr.add]
          case c2 => intro u hu; simp at hu; subst hu; rfl
          case c3 => omega
          intro w5 hown5 hgr5
          obtain ⟨n1, n2, n3⟩ := next _ _ ‹_› hgr5
          clear hnum hgr5 next hown htk fr
          go_wp2
          go_roundw
          case rel => exact ⟨k + 1, by omega, by simp, rfl, hown5, hal, n1, n2, n3⟩
          case measure => simp [intOf]; omega
      · have hkn : k = n := by omega
        subst hkn
        have htl : ws.take k = ws := List.take_of_length_le (by omega)
        have htm : (ws.map fun x => i64 (numV x)).take k = ws.map fun x => i64 (numV x) := List.take_of_length_le (by rw [List.length_map]; omega)
        rw [htl] at hp
        rw [htm] at hown
        clear ht hszs c3 f3 z3 cr htl htm
        go_wp2
        go_ret
        refine ⟨?_, fr⟩
        rw [hq, hp]
        refine ⟨G, Nat.le_of_lt hGz, rfl, ?_⟩
        rcases hown.2 with ⟨h, _⟩ | ⟨g, cap, cur, h, _, hg, _, _, hs, htk⟩
        · cases h
        · simp only [Value.slice.injEq, Option.some.injEq, Addr.mk.injEq, and_true, true_and] at h
          obtain ⟨rfl, rfl⟩ := h
          rw [hg, ← htk, List.take_of_length_le (by rw [Array.length_toList, hs]; exact Nat.le_refl _)]
end Go.Proofs.YtddhmidegldhdaaGreatDoor

/- Numbers told with spaces between, by the program. Conditions: ints, at most sixteen. -/
namespace Go.Proofs.YtddhmidegldhdaaGreatDoor
open Go.RowKit Go.Shelf
set_option maxRecDepth 100000

theorem calls_itoa (n : Int) (w : World) (ht : TabOk (nwM w) w) (h1 : -9223372036854775808 ≤ n) (h2 : n ≤ 9223372036854775807) : Calls Tryz.prog 48 #[i64 n] w (VPost w (.string (decB n))) :=
  v_v ok_itoa [i64 n] (δ := { val := .v (.string (decB n)), obl := [decide (-9223372036854775808 ≤ n), decide (n ≤ 9223372036854775807)] }) rfl rfl (by simp only [ob_cons, ob_nil, and_true, decide_eq_true_eq]; exact ⟨h1, h2⟩) rfl rfl ht
theorem itoa_short (n : Int) (h1 : -9223372036854775808 ≤ n) (h2 : n ≤ 9223372036854775807) : (Lib.itoa n).length ≤ 20 := by
  unfold Lib.itoa
  split
  · rw [List.length_cons]
    have := decDigits_len 19 n.natAbs (by omega) (by omega)
    omega
  · have := decDigits_len 19 n.toNat (by omega) (by omega)
    omega
end Go.Proofs.YtddhmidegldhdaaGreatDoor

/- The desk: what it holds; become, read. Conditions: tidy lists. -/
namespace Go.Proofs.YtddhmidegldhdaaGreatDoor
open Go.RowKit Go.Shelf
set_option maxRecDepth 100000

abbrev okB2 : ByteArray := ⟨#[111, 107]⟩
def Desk (D : Nat) (L : List Wh) (w : World) : Prop := ∃ p n c, w.heap[D]? = some (.cells #[.slice p n c] 67 (0, 0)) ∧ ReadsW w (.slice p n c) L
abbrev nwD (w : World) (D : Nat) : Nat → Prop := fun k => w.heap.size ≤ k ∨ k = D
def CPost (D : Nat) (L : List Wh) (r : Option (List Wh × List UInt8)) (w : World) (e : Ending) (w' : World) : Prop :=
  Fr (nwD w D) w w' ∧ match r with
    | some x => e = .returned (.string ⟨x.2.toArray⟩) ∧ Desk D x.1 w' ∧ isTidy x.1
    | none => e = diesE ∧ Desk D L w'
theorem Desk.ne {D : Nat} {L : List Wh} {w : World} (h : Desk D L w) : ¬ Wrow w D := fun ⟨l, fz, hl⟩ => by
  obtain ⟨p, n, c, h, _⟩ := h
  rw [h] at hl
  simp only [Option.some.injEq, Obj.cells.injEq] at hl
  exact absurd hl.2.1 (by decide)
theorem Desk.lt {D : Nat} {L : List Wh} {w : World} (h : Desk D L w) : D < w.heap.size := by
  obtain ⟨p, n, c, h, _⟩ := h
  exact (Array.getElem?_eq_some_iff.1 h).1
theorem Desk.fr {D : Nat} {L : List Wh} {w w' : World} (h : Desk D L w) (f : Fr (nwM w) w w') : Desk D L w' := by
  have hlt := h.lt
  obtain ⟨p, n, c, h, hr⟩ := h
  exact ⟨p, n, c, (f.block D hlt (Nat.not_le.2 hlt)).trans h, hr.below f⟩
theorem TabOk.nw {w : World} {D : Nat} (h : TabOk (nwD w D) w) : TabOk (nwM w) w := h.mono fun _ _ hk => .inl hk
theorem TabOk.nwf {w w' : World} (h : TabOk (nwM w) w) (f : Fr (nwM w) w w') : TabOk (nwM w') w' := (h.fr f).mono fun _ _ hi => Nat.le_trans f.size hi
theorem TabOk.nwg {w w' : World} {D : Nat} (h : TabOk (nwD w D) w) (f : Fr (nwD w D) w w') : TabOk (nwD w' D) w' := (h.fr f).mono fun _ _ hi => hi.elim (fun x => .inl (Nat.le_trans f.size x)) .inr
theorem Fr.nwd {w w' : World} {D : Nat} (f : Fr (nwM w) w w') : Fr (nwD w D) w w' := f.mono fun _ _ h => .inl h
theorem Desk.set {D : Nat} {L T : List Wh} {w : World} {p : Option Addr} {n c : Nat} (h : Desk D L w) (hs : ReadsW w (.slice p n c) T) : Desk D T (w.setCell ⟨D, 0, none⟩ (.slice p n c)) ∧ Fr (nwD w D) w (w.setCell ⟨D, 0, none⟩ (.slice p n c)) := by
  have hf : Fr (fun k => k = D) w (w.setCell ⟨D, 0, none⟩ (.slice p n c)) := ⟨rfl, rfl, rfl, by simp [World.setCell], fun k _ hk => Below.heap_setCell _ _ _ _ (fun e => hk e)⟩
  have hne := h.ne
  obtain ⟨p0, n0, c0, h, _⟩ := h
  refine ⟨⟨p, n, c, by simp [World.setCell, Array.getElem?_modify, h], hs.fr (M := fun k => k = D) (fun k _ e hw => hne (e ▸ hw)) hf⟩, hf.mono fun _ _ e => .inr e⟩
theorem ReadsW.slice {w : World} {v : Value} {L : List Wh} (h : ReadsW w v L) : ∃ p n c, v = .slice p n c := by
  obtain ⟨ν, _, h, _⟩ := h
  simp only [VR] at h
  obtain ⟨p, c, rfl, _⟩ := h
  exact ⟨p, _, c, rfl⟩
set_option maxHeartbeats 1000000 in
theorem become_ok (D : Nat) (p : Option Addr) (n c : Nat) (v0 : Value) (w : World) (hD : w.heap[D]? = some (.cells #[v0] 67 (0, 0))) : Calls Tryz.prog 146 #[.pointer (some ⟨D, 0, none⟩), .slice p n c, .bool true] w fun e w' => e = .returned (.string okB2) ∧ w' = w.setCell ⟨D, 0, none⟩ (.slice p n c) := by
  have mixed := mixed
  have c0 : w.cell? ⟨D, 0, none⟩ = some v0 := by rw [cell_of_row w D 0 #[v0] _ (0, 0) hD]; rfl
  have f0 : w.frozen? ⟨D, 0, none⟩ = false := frozen_of_row w D 0 #[v0] _ hD
  clear hD
  go_enter Tryz.func146, Tryz.ntmps146
  go_wp2_with (go_at_call 157; refine (must_ok _).mono ?_; rintro e w2 ⟨rfl, rfl⟩)
  go_ret
  exact ⟨rfl, rfl⟩
set_option maxHeartbeats 1000000 in
theorem become_no (D : Nat) (v : Value) (w : World) : Calls Tryz.prog 146 #[.pointer (some ⟨D, 0, none⟩), v, .bool false] w fun e w' => e = diesE ∧ w' = w := by
  have mixed := mixed
  go_enter Tryz.func146, Tryz.ntmps146
  go_wp2_with (go_at_call 157; refine (must_no _).mono ?_; rintro e w2 ⟨rfl, rfl⟩)
  exact ⟨rfl, rfl, rfl⟩
end Go.Proofs.YtddhmidegldhdaaGreatDoor

/- The desk in the machine: must, numbers, told, become as callees that do not fail; a command by the machine; a command that dies. Conditions: those of the table of callees. -/
namespace Go.Proofs.YtddhmidegldhdaaGreatDoor
open Go.RowKit
set_option maxRecDepth 100000

noncomputable def ksA : Code → Code | .seq a _ => a | c => c
noncomputable def ksB : Code → Code | .seq _ b => b | c => c
noncomputable def kOps : Code → Array Oper | .region _ o _ => o | _ => #[]

theorem ret_there {Q : Ex → List AV → List AB → Prop} {M : Nat → Prop} {ν : Nu} {w w' : World} (hM : ∀ k, w.heap.size ≤ k → M k) (htab : TabOk M w) (hn0 : ∀ i, ν i = none) {g n : Nat} (l : List Value) (t : TypeId) (hl : l.length = n) (hml : n ≤ maxLen) (hg : w.heap.size ≤ g) (hh : w'.heap[g]? = some (.cells l.toArray t (0, 0))) (f : Fr (nwM w) w w') (h1 : ∀ x ∈ l, x.oneCell' = true)
    (G : Nat → List Value) (hG : ∀ j, j < n → G j = (l.drop j).take 1) (hQ : Q .ret [.own 0 n] [.row true n 1 G t]) : RetG Q M ν w (.returned (.slice (some ⟨g, 0, none⟩) n n)) w' := by
  have hlt := (Array.getElem?_eq_some_iff.1 hh).1
  have h0 : (fun i : Nat => if i = 0 then some (⟨g, 0, n⟩ : Bk) else none) 0 = some ⟨g, 0, n⟩ := rfl
  have h2 : ∀ i b, (fun i : Nat => if i = 0 then some (⟨g, 0, n⟩ : Bk) else none) i = some b → i = 0 ∧ b = ⟨g, 0, n⟩ := fun i b hb => by
    simp only at hb
    split at hb
    · rename_i e
      cases hb
      exact ⟨e, rfl⟩
    · cases hb
  generalize (fun i : Nat => if i = 0 then some (⟨g, 0, n⟩ : Bk) else none) = ν' at *
  have f' : Fr M w w' := f.mono fun k _ hk => hM k hk
  refine ⟨_, .own 0 n, [.row true n 1 G t], ν', rfl, hQ, ?_, ⟨fun i => ?_, fun i j b b' hne _ _ hi hj => ?_, fun i b _ hb => ?_, fun i b hb => ?_, htab.fr f'⟩, f', fun i b hb => (by rw [hn0 i] at hb; cases hb), fun i b hb => ?_⟩
  · simp only [VR]
    exact ⟨_, h0, rfl⟩
  · cases i with
    | zero =>
      refine .inr ⟨⟨g, 0, n⟩, l, t, (0, 0), h0, hh, fun _ => ⟨rfl, rfl, rfl, by simp [hl], hml⟩, Nat.le_refl _, fun j hj => ?_⟩
      rw [hG j hj]
      refine ⟨⟨by rw [List.length_take, List.length_drop]; omega, fun x hx => h1 x (List.mem_of_mem_drop (List.mem_of_mem_take hx))⟩, fun k hk => ?_⟩
      have : k = 0 := by omega
      subst this
      rw [List.getElem?_take, if_pos (by omega), List.getElem?_drop]
      simp
    | succ i => trivial
  · have := (h2 i b hi).1
    have := (h2 j b' hj).1
    omega
  · rw [(h2 i b hb).2]
    exact hM _ hg
  · rw [(h2 i b hb).2]
    exact hlt
  · rw [(h2 i b hb).1]
    exact Nat.zero_lt_one
def FnsO (nG : Int → ByteArray → Bool) (nA : ByteArray → Nat → Int) : List SA → Option FR
  | [.v (.string s), .v (.int .i64 n)] => some { val := .own 0 n.toNat, new := [.row true n.toNat 1 (fun j => [.int .i64 (nA s j)]) 3], obl := [nG n s, decide (0 ≤ n), decide (n ≤ 3), Nat.blt s.size 4294967281] }
  | _ => none
def nbG (n : Int) (s : ByteArray) : Bool := numsG n.toNat s.data.toList
def nbA (s : ByteArray) (i : Nat) : Int := numAt s.data.toList i
theorem ok_nb : SpecOk Tryz.prog 152 (specR [.val, .val] (FnsO nbG nbA)) := by
  refine specR_calls enters Tryz.func152 rfl fun sas fr hF ho => ?_
  unfold FnsO at hF
  split at hF
  · rename_i s n
    simp only [Option.some.injEq] at hF
    subst hF
    simp only [ob_cons, ob_nil, and_true, decide_eq_true_eq, Nat.blt_eq] at ho
    obtain ⟨hg, h0, h3, hs⟩ := ho
    refine ⟨_, Hsim.refl _, fun M vals w ν hM hv hH hdom => ?_⟩
    match vals, hv with
    | [x, y], hv =>
      simp only [avC, VRs, VR, and_true] at hv
      obtain ⟨rfl, rfl⟩ := hv
      obtain ⟨k, rfl⟩ := Int.eq_ofNat_of_zero_le h0
      have hn0 : ∀ i, ν i = none := fun i => by
        cases e : ν i with
        | none => rfl
        | some b => exact absurd (hdom i b e) (by simp [abC])
      have hnu := calls_nums s k (by omega) w (hH.tab.mono fun i _ hi => hM i hi) hs
      unfold nbG at hg
      rw [Int.toNat_natCast] at hg
      rw [hg] at hnu
      refine hnu.mono ?_
      rintro e w' ⟨⟨g, hgw, rfl, hh⟩, f⟩
      have hl : (cuC 32 s.data.toList).length = k := by
        unfold numsG at hg
        rw [Bool.and_eq_true] at hg
        exact Nat.eq_of_beq_eq_true hg.1
      refine ret_there hM hH.tab hn0 _ _ (by rw [List.length_map]; exact hl) (by unfold maxLen; omega) hgw hh f (fun x hx => ?_) (fun j => [.int .i64 (nbA s j)]) (fun j hj => ?_) ⟨_, rfl, rfl, Hsim.refl _⟩
      · obtain ⟨z, _, rfl⟩ := List.mem_map.1 hx
        rfl
      · have hjl : j < (cuC 32 s.data.toList).length := by omega
        rw [List.drop_eq_getElem_cons (by rw [List.length_map]; exact hjl), List.take_succ_cons, List.take_zero, List.getElem_map]
        unfold nbA numAt
        rw [List.getD_eq_getElem?_getD, List.getElem?_eq_getElem hjl]
        rfl
  · cases hF
def specBe : Spec := fun avs H _ => match avs with
  | [.ptr i 1 0 0, .sl j 9 0 0 n c, .v (.bool b)] => (match H.getD i .gone with
    | .cells [_] t => bif Nat.beq t 67 then some { val := .v (.string okB2), rd := [i], put := [(i, .cells [.sl j 9 0 0 n c] t)], obl := [b] } else none
    | _ => none)
  | _ => none
theorem ok_be : SpecOk Tryz.prog 146 specBe := by
  refine ⟨fun args w => enters 146 Tryz.f146 Tryz.func146 rfl args w, fun avs H base δ ν vals w hS ho hv hbr hlt hfree hsep htab => ?_⟩
  unfold specBe at hS
  split at hS
  case h_2 => cases hS
  rename_i i j n c b
  split at hS
  case h_2 => cases hS
  rename_i x t hH
  cases hq : Nat.beq t 67 with
  | false => rw [hq] at hS; cases hS
  | true =>
  rw [hq, cond_true] at hS
  cases hS
  have ht := Nat.eq_of_beq_eq_true hq
  subst ht
  simp only [ob_cons, ob_nil, and_true] at ho
  subst ho
  match vals, hv with
  | [p, s, z], hv =>
    simp only [VRs, and_true] at hv
    obtain ⟨hp, hs, hz⟩ := hv
    have hz := vr_v hz
    subst hz
    have hb := hbr i (List.mem_singleton.2 rfl)
    rw [hH] at hb
    obtain ⟨b, l, g1, g2, g3, g4⟩ := hb
    simp only [VR] at hp
    obtain ⟨b', g5, rfl⟩ := hp
    rw [g1] at g5
    cases g5
    match l, g4 with
    | [v0], _ =>
      have hs' := hs
      simp only [VR] at hs'
      obtain ⟨q, c', rfl, _⟩ := hs'
      rw [g2, show (0 + (0 * 1 + 0)) = 0 from rfl]
      refine (become_ok b.n q n c' v0 w g3).mono ?_
      rintro e w' ⟨rfl, rfl⟩
      refine ⟨_, ν, rfl, Le.refl _, fun i h h' => absurd h h', by simp only [VR], fun k b2 hk => ?_, fun k b2 hk => by simp at hk, rfl, rfl, rfl, by simp [World.setCell], fun k hk hne => ?_, fun k b2 hk => by simp at hk, fun k k' b2 b3 _ hk => by simp at hk⟩
      · simp only [lookB] at hk
        split at hk
        · rename_i e
          subst e
          cases hk
          exact ⟨b, [.slice q n c'], g1, g2, by simp [World.setCell, Array.getElem?_modify, g3], hs, trivial⟩
        · cases hk
      · exact Below.heap_setCell _ _ _ _ (fun e => hne (i, _) b (List.mem_singleton.2 rfl) g1 e.symm)
def hpDf (n c : Nat) (f : Nat → Nat → Int) : List AB := [.cells [.sl 1 9 0 0 n (some c)] 67, .row false n 9 (row9 f) 60]
def nuD (D : Nat) (ν : Nu) : Nu := fun i => if i = 0 then some ⟨D, 0, 1⟩ else if i = 1 then ν 0 else none
def OldB (w : World) (D c : Nat) (ν : Nu) : Prop := ν 0 = some ⟨D, 0, 1⟩ ∧ (∀ b, ν 1 = some b → b.n < w.heap.size ∧ Wrow w b.n ∧ b.n ≠ D) ∧ (ν 1 = none → c = 0)
theorem desk_rh {D : Nat} {L : List Wh} {w : World} (hd : Desk D L w) (ht : TabOk (nwD w D) w) : ∃ (c : Nat) (ν : Nu), OldB w D c ν ∧ (∀ i b, ν i = some b → i < 2) ∧ RH (nwD w D) ν (fun b => (hpDf L.length c (wfun L)).getD b .gone) w := by
  have hlt := hd.lt
  have hne := hd.ne
  obtain ⟨p, n, c, h, ν, h1, h2, h3⟩ := hd
  have e0 : nuD D ν 0 = some ⟨D, 0, 1⟩ := rfl
  have e1 : nuD D ν 1 = ν 0 := rfl
  have e2 : ∀ i b, nuD D ν i = some b → (i = 0 ∧ b = ⟨D, 0, 1⟩) ∨ (i = 1 ∧ ν 0 = some b) := fun i b hb => by
    unfold nuD at hb
    split at hb
    · cases hb
      exact .inl ⟨by assumption, rfl⟩
    · split at hb
      · exact .inr ⟨by assumption, hb⟩
      · cases hb
  have hw : ∀ b, ν 0 = some b → b.n ≠ D := fun b hb e => hne (e ▸ (h1 0 b hb).2.2)
  generalize nuD D ν = μ at *
  simp only [VR] at h2
  obtain ⟨p', c', hv, _, h4, h5⟩ := h2
  simp only [Value.slice.injEq] at hv
  obtain ⟨rfl, rfl, rfl⟩ := hv
  refine ⟨c, μ, ⟨e0, fun b hb => ?_, fun hn => ?_⟩, fun i b hb => ?_, fun i => ?_, fun i j b b' hij hw' _ hb hb' => ?_, fun i b hw' hb => ?_, fun i b hb => ?_, ht⟩
  · rw [e1] at hb
    exact ⟨(h1 0 b hb).2.1, (h1 0 b hb).2.2, hw b hb⟩
  · rw [e1] at hn
    rcases Nat.eq_zero_or_pos c with hc | hc
    · exact hc
    · obtain ⟨b, hb, _⟩ := h5 hc
      rw [hn] at hb
      cases hb
  · rcases e2 i b hb with ⟨rfl, _⟩ | ⟨rfl, _⟩ <;> omega
  · match i with
    | 0 =>
      refine ⟨_, [.slice p L.length c], e0, rfl, h, ?_, trivial⟩
      simp only [VR]
      rw [e1]
      exact ⟨p, c, rfl, fun c' hc => Option.some.inj hc, h4, h5⟩
    | 1 =>
      rcases h3 with ⟨a, b, c⟩ | ⟨b, l, t', fz, h1, h2⟩
      · exact .inl ⟨a, b, e1.trans c⟩
      · exact .inr ⟨b, l, t', fz, e1.trans h1, h2⟩
    | i + 2 => trivial
  · rcases e2 i b hb with ⟨rfl, rfl⟩ | ⟨rfl, _⟩
    · rcases e2 j b' hb' with ⟨rfl, _⟩ | ⟨rfl, q2⟩
      · exact absurd rfl hij
      · exact fun e => hw b' q2 e.symm
    · cases hw'
  · rcases e2 i b hb with ⟨rfl, rfl⟩ | ⟨rfl, _⟩
    · exact .inr rfl
    · cases hw'
  · rcases e2 i b hb with ⟨rfl, rfl⟩ | ⟨rfl, q2⟩
    · exact hlt
    · exact (h1 0 b q2).2.1
theorem rh_cell {D : Nat} {H : List AB} {x : AV} {M : Nat → Prop} {ν : Nu} {w : World} (h0 : ν 0 = some ⟨D, 0, 1⟩) (hR : RH M ν (fun b => H.getD b .gone) w) (e0 : H.getD 0 .gone = .cells [x] 67) : ∃ v, w.heap[D]? = some (.cells #[v] 67 (0, 0)) ∧ VR ν x v := by
  have b0 := hR.br 0
  simp only [e0] at b0
  obtain ⟨b, l, g1, _, g3, g4⟩ := b0
  rw [h0] at g1
  cases g1
  match l, g4 with
  | [v], g4 => exact ⟨v, g3, g4.1⟩
theorem rh_desk {D i n : Nat} {T : List Wh} {H : List AB} {c : Option Nat} {M : Nat → Prop} {ν : Nu} {w : World} (h0 : ν 0 = some ⟨D, 0, 1⟩) (hR : RH M ν (fun b => H.getD b .gone) w) (hn : n = T.length) (e0 : H.getD 0 .gone = .cells [.sl i 9 0 0 n c] 67) (e1 : H.getD i .gone = .row true n 9 (row9 (wfun T)) 60) : Desk D T w := by
  obtain ⟨v, h1, h2⟩ := rh_cell h0 hR e0
  have b1 := hR.br i
  simp only [e1] at b1
  have hr := ReadsW.of hn h2 b1 fun b hb => hR.lt i b hb
  obtain ⟨p, n', c', rfl⟩ := hr.slice
  exact ⟨p, n', c', h1, hr⟩
theorem rh_same {D n c : Nat} {L : List Wh} {H : List AB} {ν ν' : Nu} {w w' : World} (ho : OldB w D c ν) (hle : Le ν ν') (hf : Fr (nwD w D) w w') (hR : RH (nwD w D) ν' (fun b => H.getD b .gone) w') (hn : n = L.length) (e0 : H.getD 0 .gone = .cells [.sl 1 9 0 0 n (some c)] 67) (e1 : H.getD 1 .gone = .row false n 9 (row9 (wfun L)) 60) : Desk D L w' := by
  subst hn
  obtain ⟨h0, h1, h2⟩ := ho
  obtain ⟨v, g1, g2⟩ := rh_cell (hle _ _ h0) hR e0
  simp only [VR] at g2
  obtain ⟨p, c', rfl, g3, g4, g5⟩ := g2
  obtain rfl := g3 c rfl
  refine ⟨p, _, c', g1, ?_⟩
  cases hν : ν 1 with
  | none =>
    obtain rfl := h2 hν
    have hL : L = [] := List.length_eq_zero_iff.1 (Nat.le_zero.1 g4)
    subst hL
    refine ⟨fun _ => none, fun i b h => (by cases h), ?_, .inl ⟨rfl, rfl, rfl⟩⟩
    simp only [VR]
    exact ⟨p, 0, rfl, by simp, Nat.le_refl _, fun h => absurd h (Nat.lt_irrefl 0)⟩
  | some b =>
    obtain ⟨k1, k2, k3⟩ := h1 b hν
    have hb := hle _ _ hν
    refine ⟨fun j => if j = 0 then some b else none, fun j b' hj => ?_, ?_, ?_⟩
    · simp only at hj
      split at hj
      · cases hj
        refine ⟨by assumption, Nat.lt_of_lt_of_le k1 hf.size, ?_⟩
        obtain ⟨l, fz, k4⟩ := k2
        exact ⟨l, fz, (hf.block _ k1 fun h => h.elim (fun h => by omega) k3).trans k4⟩
      · cases hj
    · simp only [VR]
      refine ⟨p, c', rfl, by simp, g4, fun hc => ?_⟩
      obtain ⟨b2, q1, q2⟩ := g5 hc
      rw [hb] at q1
      cases q1
      exact ⟨b, by simp, q2⟩
    · have b1 := hR.br 1
      simp only [e1] at b1
      rcases b1 with ⟨_, _, b1⟩ | ⟨b2, l, t', fz, q1, q2⟩
      · rw [hb] at b1
        cases b1
      · rw [hb] at q1
        cases q1
        exact .inr ⟨b, l, t', fz, by simp, q2⟩
theorem desk_run {Γ : Gam} (hΓ : GamOk Tryz.prog Γ) {f : FuncId} {fn : Func} (hf : Tryz.prog.funcs[f]? = some fn) {D : Nat} {L T : List Wh} {t : List UInt8} {vs : List Value} {w : World} (hd : Desk D L w) (ht : TabOk (nwD w D) w)
    (hex : ∀ c, (execF Tryz.prog Γ noLam 100 fn (.ptr 0 1 0 0 :: vs.map .v) (hpDf L.length c (wfun L)) (packK 2)).ok fun _ l H2 => l = [.v (.string ⟨t.toArray⟩)] ∧ ∃ i c, H2.getD 0 .gone = .cells [.sl i 9 0 0 T.length c] 67 ∧ H2.getD i .gone = .row true T.length 9 (row9 (wfun T)) 60) (hT : isTidy T) :
    Calls Tryz.prog f (.pointer (some ⟨D, 0, none⟩) :: vs).toArray w (CPost D L (some (T, t)) w) := by
  obtain ⟨c, ν, ⟨h0, _⟩, hdom, hR⟩ := desk_rh hd ht
  refine (calls_pack (vals := .pointer (some ⟨D, 0, none⟩) :: vs) hΓ mixed enters hf (noLam' _) (fun k hk => .inl hk) (hex c) ⟨?_, vrs_map vs⟩ hR hdom).mono ?_
  · simp only [VR]
    exact ⟨_, h0, rfl⟩
  · rintro e w' ⟨v, av, H2, ν', rfl, ⟨hl, i, c, e0, e1⟩, hv, hR', hfr, hle, _⟩
    simp only [List.cons.injEq, and_true] at hl
    subst hl
    simp only [VR] at hv
    subst hv
    exact ⟨hfr, rfl, rh_desk (hle _ _ h0) hR' rfl e0 e1, hT⟩
end Go.Proofs.YtddhmidegldhdaaGreatDoor

/- The desk: a command that dies in a region that draws its order. Conditions: those of the table of callees. -/
namespace Go.Proofs.YtddhmidegldhdaaGreatDoor
open Go.RowKit
set_option maxRecDepth 100000

abbrev leadK : Kont := fun e T H => .out e T H
structure Dies (Γ : Gam) (M : Nat → Prop) (w : World) (ν : Nu) (T : List AV) (H : List AB) (ops : Array Oper) (R : Ending → World → Prop) : Prop where
  mk' : ∃ (k : Nat) (QQ : Ex → List AV → List AB → Prop) (o : Oper) (g : FuncId) (args : Array Operand) (ts : Array TypeId),
    (execOps Tryz.prog Γ ops.toList (ops.toList.take k) T H [] fun T' H' tr => cond (drawOk ops.toList tr.reverse && dieOk k ops.toList) (.out .normal T' H') .err).ok QQ ∧ ops.toList[k]? = some o ∧ o.guard = none ∧ o.op = .call ⟨.value (.func g), args, ts⟩ ∧ (∀ args w, (callFunc g args).run Tryz.prog w = .ok (.enter g args) w) ∧ argsB k ops.toList args.toList = true ∧
    ∀ T' H', QQ .normal T' H' → ∀ w' ν' (vals : List Value), VRs ν' (args.toList.map (evA T')) vals → (lateB k ops.toList = true → RH M ν' (fun b => H'.getD b .gone) w' ∧ Le ν ν') → Fr M w w' → TabOk M w' → Calls Tryz.prog g vals.toArray w' fun e w'' => ∃ chain, e = .panicked chain ∧ R (.panicked chain) w''
theorem code_dies {Γ : Gam} (hΓ : GamOk Tryz.prog Γ) {fn : Func} {id : Nat} {ops : Array Oper} {rest : Code} {M : Nat → Prop} {w0 w : World} {ν0 ν : Nu} {T : List AV} {H : List AB} {R : Ending → World → Prop} {a : Act} (hM : ∀ k, w0.heap.size ≤ k → M k) (hS : SR M w0 ν0 T H a w ν) (hd : a.defers = []) (h : Dies Γ M w0 ν0 T H ops R) :
    (Code.seq (.region id ops true) rest).wp Tryz.prog (bodyPost Tryz.prog fn R) a w := by
  obtain ⟨k, QQ, o, g, args, ts, h1, h2, h3, h4, h5, h6, h7⟩ := h.mk'
  refine wp_seq (region_dies hΓ mixed hM h1 h2 h3 h4 h5 h6 hS fun T' H' hq a' w' ν' vals hv hl hf ht hd' => (h7 T' H' hq w' ν' vals hv (fun hb => ⟨(hl hb).heap, (hl hb).le⟩) hf ht).mono ?_)
  rintro e w'' ⟨chain, rfl, hr⟩
  exact ⟨chain, rfl, hd'.trans hd, hr⟩
theorem fun_dies2 {Γ : Gam} (hΓ : GamOk Tryz.prog Γ) {f : FuncId} {fn : Func} {c0 c1 : Code} {id : Nat} {ops : Array Oper} {rest : Code} (hf : Tryz.prog.funcs[f]? = some fn) (hb : fn.body = some (.seq c0 (.seq c1 (.seq (.region id ops true) rest)))) {M : Nat → Prop} {w : World} {ν : Nu} {avs : List AV} {vals : List Value} {Ta T : List AV} {H Ha H1 : List AB} {R : Ending → World → Prop} (hM : ∀ k, w.heap.size ≤ k → M k)
    (hv : VRs ν avs vals) (hH : RH M ν (fun b => H.getD b .gone) w) (hdom : ∀ i b, ν i = some b → i < H.length) (h0 : (execC Tryz.prog Γ 100 noLam c0 (avs ++ List.replicate (fn.ntmps - avs.length) (.v undef)) H leadK).ok fun e T2 H2 => e = .normal ∧ T2 = Ta ∧ H2 = Ha) (h1 : (execC Tryz.prog Γ 100 noLam c1 Ta Ha leadK).ok fun e T2 H2 => e = .normal ∧ T2 = T ∧ H2 = H1) (h : Dies Γ M w ν T H1 ops R) : Calls Tryz.prog f vals.toArray w R := by
  refine calls_of_wp hf hb (wp_seq (wp_mono (execC_sound hΓ mixed enters 100 H.length noLam c0 (noLam_ok _ _ _) M w ν hM hdom _ H leadK _ _ w ν h0 (start_sr hv hH hdom) rfl) ?_))
  rintro e a' w' ⟨e', T2, H2, ν', rfl, ⟨rfl, rfl, rfl⟩, hS, hd⟩
  refine wp_seq (wp_mono (execC_sound hΓ mixed enters 100 H.length noLam c1 (noLam_ok _ _ _) M w ν hM hdom _ _ leadK _ _ w' ν' h1 hS hd) ?_)
  rintro e a2 w2 ⟨e', T2, H2, ν2, rfl, ⟨rfl, rfl, rfl⟩, hS2, hd2⟩
  exact code_dies hΓ hM hS2 hd2 h
theorem late_dies {D n c : Nat} {L : List Wh} {w w' : World} {ν ν' : Nu} {H' : List AB} (ho : OldB w D c ν) (hn : n = L.length) (e0 : H'.getD 0 .gone = .cells [.sl 1 9 0 0 n (some c)] 67) (e1 : H'.getD 1 .gone = .row false n 9 (row9 (wfun L)) 60) (hR : RH (nwD w D) ν' (fun b => H'.getD b .gone) w' ∧ Le ν ν') (hf : Fr (nwD w D) w w') (v : Value) :
    Calls Tryz.prog 146 #[.pointer (some ⟨D, 0, none⟩), v, .bool false] w' fun e w'' => ∃ chain, e = .panicked chain ∧ CPost D L none w (.panicked chain) w'' := by
  refine (become_no D v w').mono ?_
  rintro e w'' ⟨rfl, rfl⟩
  exact ⟨_, rfl, hf, rfl, rh_same ho hR.2 hf hR.1 hn e0 e1⟩
end Go.Proofs.YtddhmidegldhdaaGreatDoor

/- errors.As at a target **misfit: closed facts on internal/reflectlite; errors.as at a misfit and at a list of errors whose first is a misfit. Conditions: errors.errorType is laid. -/
namespace Go.Proofs.YtddhmidegldhdaaGreatDoor
open Go.RowKit Go.Extern.Stop Go.Stop Go.Extern
set_option maxRecDepth 100000

theorem Tryz.valueOfMM (t : Addr) (w : World) : (ReflectliteValue.unpack (.iface 108 (.pointer (some t)))).run Tryz.prog w
    = .ok (.agg #[.pointer (some ⟨10, 108, none⟩), .pointer (some ⟨w.heap.size, 0, none⟩), .int .u64 150]) (w.alloc (.cells #[.pointer (some t)] 108)) := by kernel_rfl
theorem Tryz.typeMM (a : Addr) (w : World) : (ReflectliteValue.methodAny (ReflectliteValue.valueError "reflectlite.Value.Type" 0) (fun t _ _ _ => ReflectliteType.toType t) #[.agg #[.pointer (some ⟨10, 108, none⟩), .pointer (some a), .int .u64 150]]).run Tryz.prog w
    = .ok (.iface 221 (.agg #[.pointer (some ⟨10, 108, none⟩)])) w := by kernel_rfl
theorem Tryz.mKind (h : Value) (w : World) : (Go.method 475 221 (.agg #[h]) "Kind").run Tryz.prog w = .ok (352, h) w := by kernel_rfl
theorem Tryz.kindMM (w : World) : ((ReflectliteType.abiMethod fun t => Functor.map (fun a : Nat => Value.int IntKind.u8 (a : Int)) (Rtype.kind t)) #[.pointer (some ⟨10, 108, none⟩)]).run Tryz.prog w = .ok (.int .u8 22) w := by kernel_rfl
theorem Tryz.kindM (w : World) : ((ReflectliteType.abiMethod fun t => Functor.map (fun a : Nat => Value.int IntKind.u8 (a : Int)) (Rtype.kind t)) #[.pointer (some ⟨10, 104, none⟩)]).run Tryz.prog w = .ok (.int .u8 22) w := by kernel_rfl
theorem rlmQ (z : Sem Value) (f : TypeId → Addr → Nat → Nat → Sem Value) (v : Value) :
    ReflectliteValue.method z f #[v] = (do match ← ReflectliteValue.parts v with | none => z | some (t, a, fl) => f t a fl (fl % 32)) := rfl
theorem Tryz.partsMM (a : Addr) (w : World) : (ReflectliteValue.parts (.agg #[.pointer (some ⟨10, 108, none⟩), .pointer (some a), .int .u64 150])).run Tryz.prog w = .ok (some (108, a, 150)) w := by kernel_rfl
theorem Tryz.isNilMM (a p : Addr) (W : World) (ha : W.cell? a = some (.pointer (some p))) :
    (ReflectliteValue.method (ReflectliteValue.valueError "reflectlite.Value.IsNil" 0) ReflectliteValue.isNil #[.agg #[.pointer (some ⟨10, 108, none⟩), .pointer (some a), .int .u64 150]]).run Tryz.prog W = .ok (.bool false) W := by
  rw [rlmQ]
  simp only [Sem.run_bind, Tryz.partsMM, Result.andThen]
  simp [ReflectliteValue.isNil, loadVar, isAgg, underlying, Tryz.underlying108, ha, Result.andThen]
theorem Tryz.mElem (h : Value) (w : World) : (Go.method 475 221 (.agg #[h]) "Elem").run Tryz.prog w = .ok (368, .agg #[h]) w := by kernel_rfl
theorem Tryz.mImpl (h : Value) (w : World) : (Go.method 475 221 (.agg #[h]) "Implements").run Tryz.prog w = .ok (369, .agg #[h]) w := by kernel_rfl
theorem Tryz.mAssign (h : Value) (w : World) : (Go.method 475 221 (.agg #[h]) "AssignableTo").run Tryz.prog w = .ok (366, .agg #[h]) w := by kernel_rfl
theorem Tryz.elemMM (w : World) : (ReflectliteType.method ReflectliteType.elem #[.agg #[.pointer (some ⟨10, 108, none⟩)]]).run Tryz.prog w = .ok (.iface 221 (.agg #[.pointer (some ⟨10, 104, none⟩)])) w := by kernel_rfl
theorem Tryz.implM (w : World) : (ReflectliteType.relation "Implements" ReflectliteType.implements_ #[.agg #[.pointer (some ⟨10, 104, none⟩)], .iface 221 (.agg #[.pointer (some ⟨10, 49, none⟩)])]).run Tryz.prog w = .ok (.bool true) w := by kernel_rfl
theorem Tryz.typeOfM (v : Value) (w : World) : (ReflectliteType.typeOf #[.iface 104 v]).run Tryz.prog w = .ok (.iface 221 (.agg #[.pointer (some ⟨10, 104, none⟩)])) w := by kernel_rfl
theorem Tryz.typeOfJ (v : Value) (w : World) : (ReflectliteType.typeOf #[.iface 157 v]).run Tryz.prog w = .ok (.iface 221 (.agg #[.pointer (some ⟨10, 157, none⟩)])) w := by kernel_rfl
theorem Tryz.assignM (w : World) : (ReflectliteType.relation "AssignableTo" ReflectliteType.assignableTo #[.agg #[.pointer (some ⟨10, 104, none⟩)], .iface 221 (.agg #[.pointer (some ⟨10, 104, none⟩)])]).run Tryz.prog w = .ok (.bool true) w := by kernel_rfl
theorem Tryz.assignJ (w : World) : (ReflectliteType.relation "AssignableTo" ReflectliteType.assignableTo #[.agg #[.pointer (some ⟨10, 157, none⟩)], .iface 221 (.agg #[.pointer (some ⟨10, 104, none⟩)])]).run Tryz.prog w = .ok (.bool false) w := by kernel_rfl
theorem Tryz.valueOfM (e : Addr) (w : World) : (ReflectliteValue.unpack (.iface 104 (.pointer (some e)))).run Tryz.prog w
    = .ok (.agg #[.pointer (some ⟨10, 104, none⟩), .pointer (some ⟨w.heap.size, 0, none⟩), .int .u64 150]) (w.alloc (.cells #[.pointer (some e)] 104)) := by kernel_rfl
theorem Tryz.elemOfMM (w : World) : (Rtype.elem? 108).run Tryz.prog w = .ok (some 104) w := by kernel_rfl
theorem Tryz.mkM (p : Addr) (w : World) : (ReflectliteValue.mk 104 p ReflectliteValue.flagAddr).run Tryz.prog w = .ok (.agg #[.pointer (some ⟨10, 104, none⟩), .pointer (some p), .int .u64 406]) w := by kernel_rfl
theorem Tryz.elemVMM (a p : Addr) (W : World) (ha : W.cell? a = some (.pointer (some p))) :
    (ReflectliteValue.method (ReflectliteValue.valueError "reflectlite.Value.Elem" 0) ReflectliteValue.elem #[.agg #[.pointer (some ⟨10, 108, none⟩), .pointer (some a), .int .u64 150]]).run Tryz.prog W
      = .ok (.agg #[.pointer (some ⟨10, 104, none⟩), .pointer (some p), .int .u64 406]) W := by
  rw [rlmQ]
  simp only [Sem.run_bind, Tryz.partsMM, Result.andThen]
  simp [ReflectliteValue.elem, loadVar, isAgg, underlying, Tryz.underlying108, ha, Result.andThen, Tryz.elemOfMM, Tryz.mkM]
theorem rlsQ (v x : Value) : ReflectliteValue.set #[v, x] = (do
    let (some (dst, a, fl), some (src, b, _)) := (← ReflectliteValue.parts v, ← ReflectliteValue.parts x)
      | unsupported (.noEntry "extern/(internal/reflectlite.Value).Set.zeroValue")
    if fl / ReflectliteValue.flagAddr % 2 == 0 then unsupported (.noEntry "extern/(internal/reflectlite.Value).Set.unaddressable")
    let val ← loadVar src b
    if ← Rtype.directlyAssignable dst src then storeVar dst a val
    else if ← Rtype.implements dst src then
      if (← Rtype.kind src) == 20 then
        match val with
        | .nilIface => unsupported (.noEntry "extern/reflectlite: a nil value of one interface type handed on as a value of another")
        | _ => storeVar dst a val
      else storeVar dst a (.iface src val)
    else panicString ("reflectlite.Set: value of type " ++ (← Rtype.spelt src) ++ " is not assignable to type " ++ (← Rtype.spelt dst))
    pure (.tuple #[])) := rfl
theorem Tryz.partsMa (a : Addr) (w : World) : (ReflectliteValue.parts (.agg #[.pointer (some ⟨10, 104, none⟩), .pointer (some a), .int .u64 406])).run Tryz.prog w = .ok (some (104, a, 406)) w := by kernel_rfl
theorem Tryz.partsM (a : Addr) (w : World) : (ReflectliteValue.parts (.agg #[.pointer (some ⟨10, 104, none⟩), .pointer (some a), .int .u64 150])).run Tryz.prog w = .ok (some (104, a, 150)) w := by kernel_rfl
theorem Tryz.directM (w : World) : (Rtype.directlyAssignable 104 104).run Tryz.prog w = .ok true w := by kernel_rfl
theorem Tryz.setM (ta b e : Addr) (old : Value) (W : World) (hb : W.cell? b = some (.pointer (some e))) (ht : W.cell? ta = some old) (hf : W.frozen? ta = false) :
    (ReflectliteValue.set #[.agg #[.pointer (some ⟨10, 104, none⟩), .pointer (some ta), .int .u64 406], .agg #[.pointer (some ⟨10, 104, none⟩), .pointer (some b), .int .u64 150]]).run Tryz.prog W
      = .ok (.tuple #[]) (W.setCell ta (.pointer (some e))) := by
  rw [rlsQ]
  simp only [Sem.run_bind, Tryz.partsMa, Tryz.partsM, Result.andThen]
  simp [ReflectliteValue.flagAddr, loadVar, isAgg, underlying, Tryz.underlying104, hb, Result.andThen, Tryz.directM, storeVar, Value.cells, storeCells, Addr.add]
  rw [run_store Tryz.prog W ta _ _ (by rfl)]
  simp [ht, hf]
theorem Tryz.noAs (v : Value) (xT : TypeId) (w : World) : (Instr.typeAssert (.iface 157 v) xT 226 true).run Tryz.prog w = .ok (.tuple #[.nilIface, .bool false]) w := run_typeAssert_lacksB Tryz.underlying226 (by kernel_rfl) (by kernel_rfl) v xT w
theorem Tryz.noUnwrap (v : Value) (xT : TypeId) (w : World) : (Instr.typeAssert (.iface 157 v) xT 229 true).run Tryz.prog w = .ok (.tuple #[.nilIface, .bool false]) w := run_typeAssert_lacksB Tryz.underlying229 (by kernel_rfl) (by kernel_rfl) v xT w
theorem Tryz.hasUnwrap (v : Value) (xT : TypeId) (w : World) : (Instr.typeAssert (.iface 157 v) xT 231 true).run Tryz.prog w = .ok (.tuple #[.iface 157 v, .bool true]) w := run_typeAssert_hasB Tryz.underlying231 (by kernel_rfl) v xT w
theorem Tryz.mUnwrap (h : Value) (w : World) : (Go.method 475 157 h "Unwrap").run Tryz.prog w = .ok (360, h) w := by kernel_rfl

end Go.Proofs.YtddhmidegldhdaaGreatDoor

/- errors.as and errors.As at the target of 'fits': nil, a misfit, a list of errors whose first is a misfit. Conditions: errors.errorType is laid. -/
namespace Go.Proofs.YtddhmidegldhdaaGreatDoor
open Go.RowKit Go.Extern.Stop Go.Stop Go.Extern
set_option maxRecDepth 100000

abbrev vTg (tmp : Addr) : Value := .agg #[.pointer (some ⟨10, 108, none⟩), .pointer (some tmp), .int .u64 150]
abbrev cTg (tmp : Addr) : Obj := .cells #[.pointer (some ⟨10, 108, none⟩), .pointer (some tmp), .int .u64 150] 163
abbrev hM : Value := .iface 221 (.agg #[.pointer (some ⟨10, 104, none⟩)])
theorem as_nil (t : Value) (w : World) : Calls Tryz.prog 68 #[.nilIface, t] w fun e w' => e = .returned (.bool false) ∧ w' = w := by
  go_enter Tryz.func68, Tryz.ntmps68
  go_wp2
  go_ret
  exact ⟨rfl, rfl⟩
theorem below_cell {w : World} {a : Addr} {v : Value} (h : w.cell? a = some v) : a.block < w.heap.size := by
  rcases Nat.lt_or_ge a.block w.heap.size with h' | h'
  · exact h'
  · simp [World.cell?, Array.getElem?_eq_none h'] at h
set_option maxHeartbeats 4000000 in
theorem asIn_hit (e t tmp : Addr) (old : Value) (w : World) (hv : w.cell? tmp = some (.pointer (some t))) (ht0 : w.cell? t = some old) (hf0 : w.frozen? t = false) :
    Calls Tryz.prog 131 #[.iface 104 (.pointer (some e)), .iface 108 (.pointer (some t)), vTg tmp, hM] w fun ev w' => ev = .returned (.bool true) ∧ w' = ((w.alloc (cTg tmp)).alloc (.cells #[.pointer (some e)] 104)).setCell t (.pointer (some e)) := by
  have h6 := @run_callFunc_extern Tryz.prog 128 _ (fun args => ReflectliteValue.unpack (args.getD 0 (.tuple #[]))) Tryz.func128 (by kernel_rfl) (by kernel_rfl) (by kernel_rfl) (by kernel_rfl)
  have h10 := @run_callFunc_extern Tryz.prog 197 _ ReflectliteType.typeOf Tryz.func197 (by kernel_rfl) (by kernel_rfl) (by kernel_rfl) (by kernel_rfl)
  have h35 := @run_callFunc_extern Tryz.prog 366 _ (ReflectliteType.relation "AssignableTo" ReflectliteType.assignableTo) Tryz.func366 (by kernel_rfl) (by kernel_rfl) (by kernel_rfl) (by kernel_rfl)
  have h11 := @run_callFunc_extern Tryz.prog 198 _ (ReflectliteValue.method (ReflectliteValue.valueError "reflectlite.Value.Elem" 0) ReflectliteValue.elem) Tryz.func198 (by kernel_rfl) (by kernel_rfl) (by kernel_rfl) (by kernel_rfl)
  have h12 := @run_callFunc_extern Tryz.prog 199 _ ReflectliteValue.set Tryz.func199 (by kernel_rfl) (by kernel_rfl) (by kernel_rfl) (by kernel_rfl)
  have tO := Tryz.typeOfM
  have mA := Tryz.mAssign
  have aM := Tryz.assignM
  have vM := Tryz.valueOfM
  have hlv := below_cell hv
  have hlt := below_cell ht0
  have el := Tryz.elemVMM tmp t (w.alloc (cTg tmp)) (by rw [World.cell?_alloc_lt _ _ tmp hlv]; exact hv)
  have st := Tryz.setM t ⟨w.heap.size + 1, 0, none⟩ e old ((w.alloc (cTg tmp)).alloc (.cells #[.pointer (some e)] 104))
    (by rw [World.cell?_alloc_at _ _ _ _ (by simp)]; rfl)
    (by rw [World.cell?_alloc_lt _ _ t (by simp; omega), World.cell?_alloc_lt _ _ t hlt]; exact ht0)
    (by rw [World.frozen?_alloc_old _ _ t (by simp; omega), World.frozen?_alloc_old _ _ t (Nat.ne_of_lt hlt)]; exact hf0)
  go_enter Tryz.func131, Tryz.ntmps131
  go_wp2
  refine wp_loop_rounds 1 ?_
  rw [rounds_succ]
  go_wp2
  go_ret
  exact ⟨rfl, rfl⟩

end Go.Proofs.YtddhmidegldhdaaGreatDoor

/- errors.as at a list of errors whose first is a misfit; errors.As at both; fits. Conditions: errors.errorType is laid. -/
namespace Go.Proofs.YtddhmidegldhdaaGreatDoor
open Go.RowKit Go.Extern.Stop Go.Stop Go.Extern
set_option maxRecDepth 100000

abbrev wIn (w : World) (t tmp e : Addr) : World := ((w.alloc (cTg tmp)).alloc (.cells #[.pointer (some e)] 104)).setCell t (.pointer (some e))
set_option maxHeartbeats 8000000 in
theorem asIn_join (j b e t tmp : Addr) (n c : Nat) (old : Value) (w : World) (hn : 0 < n) (hj : w.cell? j = some (.slice (some b) n c)) (hb : w.cell? b = some (.iface 104 (.pointer (some e)))) (hv : w.cell? tmp = some (.pointer (some t))) (ht0 : w.cell? t = some old) (hf0 : w.frozen? t = false) :
    Calls Tryz.prog 131 #[.iface 157 (.pointer (some j)), .iface 108 (.pointer (some t)), vTg tmp, hM] w fun ev w' => ev = .returned (.bool true) ∧ w' = wIn (w.alloc (cTg tmp)) t tmp e := by
  have h6 := @run_callFunc_extern Tryz.prog 128 _ (fun args => ReflectliteValue.unpack (args.getD 0 (.tuple #[]))) Tryz.func128 (by kernel_rfl) (by kernel_rfl) (by kernel_rfl) (by kernel_rfl)
  have h10 := @run_callFunc_extern Tryz.prog 197 _ ReflectliteType.typeOf Tryz.func197 (by kernel_rfl) (by kernel_rfl) (by kernel_rfl) (by kernel_rfl)
  have h35 := @run_callFunc_extern Tryz.prog 366 _ (ReflectliteType.relation "AssignableTo" ReflectliteType.assignableTo) Tryz.func366 (by kernel_rfl) (by kernel_rfl) (by kernel_rfl) (by kernel_rfl)
  have tO := Tryz.typeOfJ
  have mA := Tryz.mAssign
  have aM := Tryz.assignJ
  have n1 := Tryz.noAs
  have n2 := Tryz.noUnwrap
  have n3 := Tryz.hasUnwrap
  have mU := Tryz.mUnwrap
  have hlj := below_cell hj
  have hlb := below_cell hb
  have hlv := below_cell hv
  have hlt := below_cell ht0
  have hj' : (w.alloc (cTg tmp)).cell? j = some (.slice (some b) n c) := by rw [World.cell?_alloc_lt _ _ j hlj]; exact hj
  have hb' : (w.alloc (cTg tmp)).cell? b = some (.iface 104 (.pointer (some e))) := by rw [World.cell?_alloc_lt _ _ b hlb]; exact hb
  have hv' : (w.alloc (cTg tmp)).cell? tmp = some (.pointer (some t)) := by rw [World.cell?_alloc_lt _ _ tmp hlv]; exact hv
  have ht' : (w.alloc (cTg tmp)).cell? t = some old := by rw [World.cell?_alloc_lt _ _ t hlt]; exact ht0
  have hf' : (w.alloc (cTg tmp)).frozen? t = false := by rw [World.frozen?_alloc_old _ _ t (Nat.ne_of_lt hlt)]; exact hf0
  go_enter Tryz.func131, Tryz.ntmps131
  go_wp2
  refine wp_loop_rounds 1 ?_
  rw [rounds_succ]
  go_wp2
  refine wp_loop_rounds 1 ?_
  rw [rounds_succ]
  go_wp2_with (go_at_call 131; refine (asIn_hit e t tmp old _ hv' ht' hf').mono ?_; rintro ev w' ⟨rfl, rfl⟩)
  go_ret
  exact ⟨rfl, rfl⟩

end Go.Proofs.YtddhmidegldhdaaGreatDoor

/- errors.As at a misfit and at a list of errors whose first is a misfit; fits. Conditions: errors.errorType is laid. -/
namespace Go.Proofs.YtddhmidegldhdaaGreatDoor
open Go.RowKit Go.Extern.Stop Go.Stop Go.Extern
set_option maxRecDepth 100000

abbrev eT : Value := .iface 221 (.agg #[.pointer (some ⟨10, 49, none⟩)])
abbrev wAs (w : World) (t : Addr) : World := (w.alloc (.cells #[.pointer (some t)] 108)).alloc (cTg ⟨w.heap.size, 0, none⟩)
set_option maxHeartbeats 8000000 in
theorem As_walk {Q : World → Prop} (tx : TypeId) (x : Value) (t : Addr) (w : World) (hg : w.cell? ⟨0, 0, none⟩ = some eT)
    (has : Calls Tryz.prog 131 #[.iface tx x, .iface 108 (.pointer (some t)), vTg ⟨w.heap.size, 0, none⟩, hM] (wAs w t) fun ev w' => ev = .returned (.bool true) ∧ Q w') :
    Calls Tryz.prog 68 #[.iface tx x, .iface 108 (.pointer (some t))] w fun ev w' => ev = .returned (.bool true) ∧ Q w' := by
  have h6 := @run_callFunc_extern Tryz.prog 128 _ (fun args => ReflectliteValue.unpack (args.getD 0 (.tuple #[]))) Tryz.func128 (by kernel_rfl) (by kernel_rfl) (by kernel_rfl) (by kernel_rfl)
  have h7 := @run_callFunc_extern Tryz.prog 129 _ (ReflectliteValue.methodAny (ReflectliteValue.valueError "reflectlite.Value.Type" 0) (fun t _ _ _ => ReflectliteType.toType t)) Tryz.func129 (by kernel_rfl) (by kernel_rfl) (by kernel_rfl) (by kernel_rfl)
  have h8 := @run_callFunc_extern Tryz.prog 130 _ (ReflectliteValue.method (ReflectliteValue.valueError "reflectlite.Value.IsNil" 0) ReflectliteValue.isNil) Tryz.func130 (by kernel_rfl) (by kernel_rfl) (by kernel_rfl) (by kernel_rfl)
  have h27 := @run_callFunc_extern Tryz.prog 352 _ (ReflectliteType.abiMethod fun t => do pure (.int .u8 (← Rtype.kind t))) Tryz.func352 (by kernel_rfl) (by kernel_rfl) (by kernel_rfl) (by kernel_rfl)
  have h37 := @run_callFunc_extern Tryz.prog 368 _ (ReflectliteType.method ReflectliteType.elem) Tryz.func368 (by kernel_rfl) (by kernel_rfl) (by kernel_rfl) (by kernel_rfl)
  have h38 := @run_callFunc_extern Tryz.prog 369 _ (ReflectliteType.relation "Implements" ReflectliteType.implements_) Tryz.func369 (by kernel_rfl) (by kernel_rfl) (by kernel_rfl) (by kernel_rfl)
  have f6 := Tryz.valueOfMM
  have f7 := Tryz.typeMM
  have mK := Tryz.mKind
  have mE := Tryz.mElem
  have mI := Tryz.mImpl
  have k27 := Tryz.kindMM
  have k25 := Tryz.kindM
  have e27 := Tryz.elemMM
  have i25 := Tryz.implM
  have hlt := below_cell hg
  have n8 := Tryz.isNilMM ⟨w.heap.size, 0, none⟩ t (wAs w t) (by rw [World.cell?_alloc_lt _ _ ⟨w.heap.size, 0, none⟩ (by simp)]; simp)
  have hg2 : (wAs w t).cell? ⟨0, 0, none⟩ = some eT := by
    rw [World.cell?_alloc_lt _ _ ⟨0, 0, none⟩ (by simp), World.cell?_alloc_lt _ _ ⟨0, 0, none⟩ hlt]; exact hg
  go_enter Tryz.func68, Tryz.ntmps68
  go_wp2_with (go_at_call 131; refine has.mono ?_; rintro ev w' ⟨rfl, hq⟩)
  go_ret
  exact ⟨rfl, hq⟩
def isMis (v : Value) (w : World) : Prop := (∃ e, v = .iface 104 (.pointer (some e))) ∨ ∃ j b e n c, v = .iface 157 (.pointer (some j)) ∧ 0 < n ∧ w.cell? j = some (.slice (some b) n c) ∧ w.cell? b = some (.iface 104 (.pointer (some e)))
theorem wIn_below {B : Nat} {w w0 : World} (h : Below B w0 w) (hB : B ≤ w.heap.size) {t tmp e : Addr} (ht : B ≤ t.block) : Below B w0 (wIn w t tmp e) :=
  ((h.alloc hB _).alloc (by simp; omega) _).setCell ht _
theorem wAs_below {B : Nat} {w w0 : World} (h : Below B w0 w) (hB : B ≤ w.heap.size) {t : Addr} : Below B w0 (wAs w t) :=
  (h.alloc hB _).alloc (by simp; omega) _
set_option maxHeartbeats 8000000 in
theorem As_mis (v : Value) (t : Addr) (old : Value) (w : World) (hg : w.cell? ⟨0, 0, none⟩ = some eT) (hv : isMis v w) (ht0 : w.cell? t = some old) (hf0 : w.frozen? t = false) (B : Nat) (hB : B ≤ t.block) :
    Calls Tryz.prog 68 #[v, .iface 108 (.pointer (some t))] w fun ev w' => ev = .returned (.bool true) ∧ Below B w w' := by
  have hlt := below_cell ht0
  have tmp : (wAs w t).cell? ⟨w.heap.size, 0, none⟩ = some (.pointer (some t)) := by rw [World.cell?_alloc_lt _ _ ⟨w.heap.size, 0, none⟩ (by simp)]; simp
  have keep : ∀ {a : Addr} {x : Value}, w.cell? a = some x → (wAs w t).cell? a = some x := fun h => by
    rw [World.cell?_alloc_lt _ _ _ (by have := below_cell h; simp; omega), World.cell?_alloc_lt _ _ _ (below_cell h)]; exact h
  have hf : (wAs w t).frozen? t = false := by
    rw [World.frozen?_alloc_old _ _ t (by simp; omega), World.frozen?_alloc_old _ _ t (Nat.ne_of_lt hlt)]; exact hf0
  have hb := wAs_below (t := t) (Below.refl B w) (by omega)
  rcases hv with ⟨e, rfl⟩ | ⟨j, b, e, n, c, rfl, hn, hj, he⟩
  · refine As_walk _ _ t w hg ((asIn_hit e t _ old _ tmp (keep ht0) hf).mono ?_)
    rintro ev w' ⟨rfl, rfl⟩
    exact ⟨rfl, wIn_below hb (by simp; omega) hB⟩
  · refine As_walk _ _ t w hg ((asIn_join j b e t _ n c old _ hn (keep hj) (keep he) tmp (keep ht0) hf).mono ?_)
    rintro ev w' ⟨rfl, rfl⟩
    exact ⟨rfl, wIn_below (hb.alloc (by simp; omega) _) (by simp; omega) hB⟩
theorem isMis.keep {v : Value} {w w' : World} (h : isMis v w) (hk : ∀ a x, w.cell? a = some x → w'.cell? a = some x) : isMis v w' := by
  rcases h with h | ⟨j, b, e, n, c, h1, h2, h3, h4⟩
  · exact .inl h
  · exact .inr ⟨j, b, e, n, c, h1, h2, hk _ _ h3, hk _ _ h4⟩
set_option maxHeartbeats 8000000 in
theorem fits_mis (v : Value) (w : World) (hg : w.cell? ⟨0, 0, none⟩ = some eT) (hv : isMis v w) :
    Calls Tryz.prog 34 #[v] w fun ev w' => ev = .returned (.bool false) ∧ Below w.heap.size w w' := by
  have hlt := below_cell hg
  have keep : ∀ (a : Addr) (x : Value), w.cell? a = some x → (w.alloc (.cells #[.pointer none] 104)).cell? a = some x := fun a x h => by
    rw [World.cell?_alloc_lt _ _ _ (below_cell h)]; exact h
  have hAs := As_mis v ⟨w.heap.size, 0, none⟩ (.pointer none) (w.alloc (.cells #[.pointer none] 104)) (keep _ _ hg) (hv.keep keep) (by simp) (by simp) w.heap.size (Nat.le_refl _)
  clear hv keep hg
  go_enter Tryz.func34, Tryz.ntmps34
  go_wp2_with (go_at_call 68; refine hAs.mono ?_; rintro ev w' ⟨rfl, hq⟩)
  go_ret
  exact ⟨rfl, ((Below.refl _ w).alloc (Nat.le_refl _) _).trans hq⟩
set_option maxHeartbeats 8000000 in
theorem fits_nil (w : World) : Calls Tryz.prog 34 #[.nilIface] w fun ev w' => ev = .returned (.bool true) ∧ Below w.heap.size w w' := by
  have hAs := fun (t : Value) (w : World) => as_nil t w
  go_enter Tryz.func34, Tryz.ntmps34
  go_wp2_with (go_at_call 68; refine (hAs _ _).mono ?_; rintro ev w' ⟨rfl, rfl⟩)
  go_ret
  exact ⟨rfl, (Below.refl _ w).alloc (Nat.le_refl _) _⟩

end Go.Proofs.YtddhmidegldhdaaGreatDoor

/- gear, errors.Join at two errors, meshes. No conditions. -/
namespace Go.Proofs.YtddhmidegldhdaaGreatDoor
open Go.RowKit Go.Extern.Stop Go.Stop Go.Extern
set_option maxRecDepth 100000

theorem w_yes {n : Int} (l h : Int) (w : World) (hn : inR n l h = true) : Calls Tryz.prog 35 #[.int .i64 n, .int .i64 l, .int .i64 h] w fun e w' => e = .returned (.bool true) ∧ w' = w := by
  have h2 := inR_iff.1 hn
  have h3 : n ≥ l := h2.1
  have h4 : n ≤ h := h2.2
  go_enter Tryz.func35, Tryz.ntmps35
  go_wp2
  go_ret
  exact ⟨rfl, rfl⟩
theorem w_no {n : Int} (l h : Int) (w : World) (hn : inR n l h = false) : Calls Tryz.prog 35 #[.int .i64 n, .int .i64 l, .int .i64 h] w fun e w' => e = .returned (.bool false) ∧ w' = w := by
  have h2 : ¬ (l ≤ n ∧ n ≤ h) := fun h => by rw [inR_iff.2 h] at hn; cases hn
  clear hn
  by_cases c : l ≤ n
  · have c2 : ¬ n ≤ h := fun c2 => h2 ⟨c, c2⟩
    have c1 : n ≥ l := c
    clear h2 c
    go_enter Tryz.func35, Tryz.ntmps35
    go_wp2
    go_ret
    exact ⟨rfl, rfl⟩
  · have c1 : ¬ n ≥ l := c
    clear h2 c
    go_enter Tryz.func35, Tryz.ntmps35
    go_wp2
    go_ret
    exact ⟨rfl, rfl⟩
theorem gear_yes {n : Int} (w : World) (hn : inR n 6 240 = true) : Calls Tryz.prog 67 #[.int .i64 n] w fun e w' => e = .returned .nilIface ∧ w' = w := by
  have hw := fun w => w_yes 6 240 w hn
  go_enter Tryz.func67, Tryz.ntmps67
  go_wp2_with (go_at_call 35; refine (hw _).mono ?_; rintro ev w' ⟨rfl, rfl⟩)
  go_ret
  exact ⟨rfl, rfl⟩
theorem gear_no {n : Int} (w : World) (hn : inR n 6 240 = false) : Calls Tryz.prog 67 #[.int .i64 n] w fun e w' => e = .returned (.iface 104 (.pointer (some ⟨w.heap.size, 0, none⟩))) ∧ w' = w.alloc (.cells #[.int .i64 n] 106) := by
  have hw := fun w => w_no 6 240 w hn
  go_enter Tryz.func67, Tryz.ntmps67
  go_wp2_with (go_at_call 35; refine (hw _).mono ?_; rintro ev w' ⟨rfl, rfl⟩)
  go_ret
  exact ⟨rfl, rfl⟩
abbrev mf (p : Addr) : Value := .iface 104 (.pointer (some p))
set_option maxHeartbeats 8000000 in
theorem Join_nn (s : Nat) (w : World) (h0 : w.cell? ⟨s, 0, none⟩ = some .nilIface) (h1 : w.cell? ⟨s, 1, none⟩ = some .nilIface) :
    Calls Tryz.prog 66 #[.slice (some ⟨s, 0, none⟩) 2 2] w fun e w' => e = .returned .nilIface ∧ w' = w := by
  have tE := Tryz.underlying49
  go_enter Tryz.func66, Tryz.ntmps66
  go_wp2
  refine wp_loop_rounds 3 ?_
  iterate 3
    rw [rounds_succ]
    go_wp2
  go_ret
  exact ⟨rfl, rfl⟩

end Go.Proofs.YtddhmidegldhdaaGreatDoor

/- errors.Join at two errors of which one is a misfit. No conditions. -/
namespace Go.Proofs.YtddhmidegldhdaaGreatDoor
open Go.RowKit Go.Extern.Stop Go.Stop Go.Extern
set_option maxRecDepth 100000

theorem mS1 (w : World) : (Instr.makeSlice 156 (.int .i64 0) (.int .i64 1)).run Tryz.prog w = .ok (.slice (some ⟨w.heap.size, 0, none⟩) 0 1) (w.alloc (.cells #[.nilIface] 49)) := by kernel_rfl
theorem mS2 (w : World) : (Instr.makeSlice 156 (.int .i64 0) (.int .i64 2)).run Tryz.prog w = .ok (.slice (some ⟨w.heap.size, 0, none⟩) 0 2) (w.alloc (.cells #[.nilIface, .nilIface] 49)) := by kernel_rfl
theorem app_at (w : World) (g n c : Nat) (s : Addr) (x : Value) (cur : Array Value) (hg : w.heap[g]? = some (.cells cur 49 (0, 0))) (hx : w.cell? s = some x) (h1 : x.oneCell' = true) (hr : n + 1 ≤ c) (hc : n + 1 ≤ cur.size) :
    (Builtin.append_ #[156, 156] 156 #[.slice (some ⟨g, 0, none⟩) n c, .slice (some s) 1 1]).run Tryz.prog w = .ok (.slice (some ⟨g, 0, none⟩) (n + 1) c) (w.setRow g (cur.toList.take n ++ [x] ++ cur.toList.drop (n + 1)).toArray) := by
  have hi : (Tryz.prog.info? 49).map (·.size) = some 1 := by kernel_rfl
  obtain ⟨i, hi, hs⟩ := Option.map_eq_some_iff.1 hi
  have := run_append_room (P := Tryz.prog) w 156 156 49 i Tryz.underlying156 hi g n c cur hg s 1 1 [x] (by rw [hs]; rfl) (fun j u h => by
    match j, h with
    | 0, h =>
      simp only [List.getElem?_cons_zero, Option.some.injEq] at h
      subst h
      simpa [Addr.add] using hx
    | j + 1, h => simp at h) (by simpa using h1) hr (by rw [hs]; simpa using hc)
  rw [this, hs, Nat.mul_one]
  rfl
abbrev wJ1 (w : World) (x : Value) : World := ((w.alloc (.cells #[.nilIface] 49)).alloc (.cells #[.slice (some ⟨w.heap.size, 0, none⟩) 0 1] 159)).alloc (.cells #[x] 49)
abbrev wK1 (w : World) (x : Value) : World := ((w.alloc (.cells #[x] 49)).alloc (.cells #[.slice (some ⟨w.heap.size, 0, none⟩) 1 1] 159)).alloc (.cells #[x] 49)
theorem wJ1_row (w : World) (x : Value) : (wJ1 w x).heap[w.heap.size]? = some (.cells #[.nilIface] 49 (0, 0)) := by
  rw [Below.heap_alloc _ _ _ (by simp; omega), Below.heap_alloc _ _ _ (by simp)]
  exact heap_alloc_new w _
theorem app1 (w : World) (p : Addr) : (Builtin.append_ #[156, 156] 156 #[.slice (some ⟨w.heap.size, 0, none⟩) 0 1, .slice (some ⟨w.heap.size + 1 + 1, 0, none⟩) 1 1]).run Tryz.prog (wJ1 w (mf p)) = .ok (.slice (some ⟨w.heap.size, 0, none⟩) 1 1) ((wJ1 w (mf p)).setRow w.heap.size #[mf p]) := by
  refine app_at _ _ 0 1 _ (mf p) #[.nilIface] (wJ1_row w _) ?_ rfl (by omega) (by simp)
  rw [World.cell?_alloc_at _ _ _ _ (by simp)]
  rfl
theorem wK1_below (w : World) (x : Value) : Below w.heap.size w (wK1 w x) := (((Below.refl _ w).alloc (Nat.le_refl _) _).alloc (by simp) _).alloc (by simp; omega) _
set_option maxHeartbeats 8000000 in
theorem Join_mn (s : Nat) (p : Addr) (w : World) (h0 : w.cell? ⟨s, 0, none⟩ = some (mf p)) (h1 : w.cell? ⟨s, 1, none⟩ = some .nilIface) :
    Calls Tryz.prog 66 #[.slice (some ⟨s, 0, none⟩) 2 2] w fun e w' => e = .returned (.iface 157 (.pointer (some ⟨w.heap.size + 1, 0, none⟩))) ∧ w' = wK1 w (mf p) := by
  have tE := Tryz.underlying49
  have m1 := mS1
  have a1 := app1 w p
  have hlt : s < w.heap.size := below_cell h0
  have b0 : ((w.alloc (.cells #[.nilIface] 49)).alloc (.cells #[.slice (some ⟨w.heap.size, 0, none⟩) 0 1] 159)).cell? ⟨s, 0, none⟩ = some (mf p) := by
    rw [World.cell?_alloc_lt _ _ _ (by simp; omega), World.cell?_alloc_lt _ _ _ hlt]; exact h0
  have b1 : (wK1 w (mf p)).cell? ⟨s, 1, none⟩ = some .nilIface := ((wK1_below w _).cell (p := ⟨s, 1, none⟩) hlt).trans h1
  go_enter Tryz.func66, Tryz.ntmps66
  go_wp2
  refine wp_loop_rounds 3 ?_
  iterate 3
    rw [rounds_succ]
    go_wp2
  refine wp_loop_rounds 3 ?_
  iterate 3
    rw [rounds_succ]
    go_wp2
  go_ret
  exact ⟨rfl, rfl⟩

end Go.Proofs.YtddhmidegldhdaaGreatDoor

/- errors.Join: the other two cases; meshes where teeth do not fit. No conditions. -/
namespace Go.Proofs.YtddhmidegldhdaaGreatDoor
open Go.RowKit Go.Extern.Stop Go.Stop Go.Extern
set_option maxRecDepth 100000

set_option maxHeartbeats 8000000 in
theorem Join_nm (s : Nat) (p : Addr) (w : World) (h0 : w.cell? ⟨s, 0, none⟩ = some .nilIface) (h1 : w.cell? ⟨s, 1, none⟩ = some (mf p)) :
    Calls Tryz.prog 66 #[.slice (some ⟨s, 0, none⟩) 2 2] w fun e w' => e = .returned (.iface 157 (.pointer (some ⟨w.heap.size + 1, 0, none⟩))) ∧ w' = wK1 w (mf p) := by
  have tE := Tryz.underlying49
  have m1 := mS1
  have a1 := app1 w p
  have hlt : s < w.heap.size := below_cell h0
  have b0 : ((w.alloc (.cells #[.nilIface] 49)).alloc (.cells #[.slice (some ⟨w.heap.size, 0, none⟩) 0 1] 159)).cell? ⟨s, 0, none⟩ = some .nilIface := by
    rw [World.cell?_alloc_lt _ _ _ (by simp; omega), World.cell?_alloc_lt _ _ _ hlt]; exact h0
  have b1 : ((w.alloc (.cells #[.nilIface] 49)).alloc (.cells #[.slice (some ⟨w.heap.size, 0, none⟩) 0 1] 159)).cell? ⟨s, 1, none⟩ = some (mf p) := by
    rw [World.cell?_alloc_lt _ _ _ (by simp; omega), World.cell?_alloc_lt _ _ _ hlt]; exact h1
  go_enter Tryz.func66, Tryz.ntmps66
  go_wp2
  refine wp_loop_rounds 3 ?_
  iterate 3
    rw [rounds_succ]
    go_wp2
  refine wp_loop_rounds 3 ?_
  iterate 3
    rw [rounds_succ]
    go_wp2
  go_ret
  exact ⟨rfl, rfl⟩
abbrev wJ2 (w : World) (x : Value) : World := ((w.alloc (.cells #[.nilIface, .nilIface] 49)).alloc (.cells #[.slice (some ⟨w.heap.size, 0, none⟩) 0 2] 159)).alloc (.cells #[x] 49)
abbrev wJ3 (w : World) (x : Value) : World := ((w.alloc (.cells #[x, .nilIface] 49)).alloc (.cells #[.slice (some ⟨w.heap.size, 0, none⟩) 1 2] 159)).alloc (.cells #[x] 49)
abbrev wK2 (w : World) (x y : Value) : World := (((w.alloc (.cells #[x, y] 49)).alloc (.cells #[.slice (some ⟨w.heap.size, 0, none⟩) 2 2] 159)).alloc (.cells #[x] 49)).alloc (.cells #[y] 49)
theorem app2 (w : World) (p : Addr) : (Builtin.append_ #[156, 156] 156 #[.slice (some ⟨w.heap.size, 0, none⟩) 0 2, .slice (some ⟨w.heap.size + 1 + 1, 0, none⟩) 1 1]).run Tryz.prog (wJ2 w (mf p)) = .ok (.slice (some ⟨w.heap.size, 0, none⟩) 1 2) ((wJ2 w (mf p)).setRow w.heap.size #[mf p, .nilIface]) := by
  refine app_at _ _ 0 2 _ (mf p) #[.nilIface, .nilIface] ?_ ?_ rfl (by omega) (by simp)
  · rw [Below.heap_alloc _ _ _ (by simp; omega), Below.heap_alloc _ _ _ (by simp)]
    exact heap_alloc_new w _
  · rw [World.cell?_alloc_at _ _ _ _ (by simp)]
    rfl
theorem app3 (w : World) (p q : Addr) : (Builtin.append_ #[156, 156] 156 #[.slice (some ⟨w.heap.size, 0, none⟩) 1 2, .slice (some ⟨w.heap.size + 1 + 1 + 1, 0, none⟩) 1 1]).run Tryz.prog ((wJ3 w (mf p)).alloc (.cells #[mf q] 49)) = .ok (.slice (some ⟨w.heap.size, 0, none⟩) 2 2) (((wJ3 w (mf p)).alloc (.cells #[mf q] 49)).setRow w.heap.size #[mf p, mf q]) := by
  refine app_at _ _ 1 2 _ (mf q) #[mf p, .nilIface] ?_ ?_ rfl (by omega) (by simp)
  · rw [Below.heap_alloc _ _ _ (by simp; omega), Below.heap_alloc _ _ _ (by simp; omega), Below.heap_alloc _ _ _ (by simp)]
    exact heap_alloc_new w _
  · rw [World.cell?_alloc_at _ _ _ _ (by simp)]
    rfl
set_option maxHeartbeats 8000000 in
theorem Join_mm (s : Nat) (p q : Addr) (w : World) (h0 : w.cell? ⟨s, 0, none⟩ = some (mf p)) (h1 : w.cell? ⟨s, 1, none⟩ = some (mf q)) :
    Calls Tryz.prog 66 #[.slice (some ⟨s, 0, none⟩) 2 2] w fun e w' => e = .returned (.iface 157 (.pointer (some ⟨w.heap.size + 1, 0, none⟩))) ∧ w' = wK2 w (mf p) (mf q) := by
  have tE := Tryz.underlying49
  have m1 := mS2
  have a1 := app2 w p
  have a2 := app3 w p q
  have hlt : s < w.heap.size := below_cell h0
  have b0 : ((w.alloc (.cells #[.nilIface, .nilIface] 49)).alloc (.cells #[.slice (some ⟨w.heap.size, 0, none⟩) 0 2] 159)).cell? ⟨s, 0, none⟩ = some (mf p) := by
    rw [World.cell?_alloc_lt _ _ _ (by simp; omega), World.cell?_alloc_lt _ _ _ hlt]; exact h0
  have b1 : (wJ3 w (mf p)).cell? ⟨s, 1, none⟩ = some (mf q) := by
    rw [World.cell?_alloc_lt _ _ _ (by simp; omega), World.cell?_alloc_lt _ _ _ (by simp; omega), World.cell?_alloc_lt _ _ _ hlt]; exact h1
  go_enter Tryz.func66, Tryz.ntmps66
  go_wp2
  refine wp_loop_rounds 3 ?_
  iterate 3
    rw [rounds_succ]
    go_wp2
  refine wp_loop_rounds 3 ?_
  iterate 3
    rw [rounds_succ]
    go_wp2
  go_ret
  exact ⟨rfl, rfl⟩

end Go.Proofs.YtddhmidegldhdaaGreatDoor

/- meshes where teeth do not fit. No conditions. -/
namespace Go.Proofs.YtddhmidegldhdaaGreatDoor
open Go.RowKit Go.Extern.Stop Go.Stop Go.Extern
set_option maxRecDepth 100000

theorem mis1 (w : World) (p : Addr) : isMis (.iface 157 (.pointer (some ⟨w.heap.size + 1, 0, none⟩))) (wK1 w (mf p)) := by
  refine .inr ⟨_, ⟨w.heap.size, 0, none⟩, p, 1, 1, rfl, by omega, ?_, ?_⟩
  · rw [World.cell?_alloc_lt _ _ _ (by simp), World.cell?_alloc_at _ _ _ _ (by simp)]
    rfl
  · rw [World.cell?_alloc_lt _ _ _ (by simp; omega), World.cell?_alloc_lt _ _ _ (by simp), World.cell?_alloc_at _ _ _ _ (by simp)]
    rfl
theorem mis2 (w : World) (p q : Addr) : isMis (.iface 157 (.pointer (some ⟨w.heap.size + 1, 0, none⟩))) (wK2 w (mf p) (mf q)) := by
  refine .inr ⟨_, ⟨w.heap.size, 0, none⟩, p, 2, 2, rfl, by omega, ?_, ?_⟩
  · rw [World.cell?_alloc_lt _ _ _ (by simp), World.cell?_alloc_lt _ _ _ (by simp), World.cell?_alloc_at _ _ _ _ (by simp)]
    rfl
  · rw [World.cell?_alloc_lt _ _ _ (by simp; omega), World.cell?_alloc_lt _ _ _ (by simp; omega), World.cell?_alloc_lt _ _ _ (by simp), World.cell?_alloc_at _ _ _ _ (by simp)]
    rfl
theorem wK2_below (w : World) (x y : Value) : Below w.heap.size w (wK2 w x y) := ((((Below.refl _ w).alloc (Nat.le_refl _) _).alloc (by simp) _).alloc (by simp; omega) _).alloc (by simp; omega) _
set_option maxHeartbeats 8000000 in
theorem meshes_mn {a b : Int} {c : Bool} (w : World) (ha : inR a 6 240 = false) (hb : inR b 6 240 = true) :
    Calls Tryz.prog 33 #[.int .i64 a, .int .i64 b, .bool c] w fun e w' => ∃ v, e = .returned (.tuple #[.int .i64 0, v]) ∧ isMis v w' ∧ Below w.heap.size w w' := by
  have hA := fun w => gear_no (n := a) w ha
  have hB := fun w => gear_yes (n := b) w hb
  have tE := Tryz.underlying49
  have hJ := Join_mn (w.heap.size + 1) ⟨w.heap.size, 0, none⟩ ((w.alloc (.cells #[.int .i64 a] 106)).alloc (.cells #[mf ⟨w.heap.size, 0, none⟩, .nilIface] 49)) (by simp) (by simp)
  clear ha hb
  go_enter Tryz.func33, Tryz.ntmps33
  go_wp2_with fail
  go_at_call 67
  refine (hA _).mono ?_
  rintro e w' ⟨rfl, hw⟩
  subst w'
  go_wp2_with fail
  go_at_call 67
  refine (hB _).mono ?_
  rintro e w' ⟨rfl, hw⟩
  subst w'
  go_wp2_with fail
  go_at_call 66
  refine hJ.mono ?_
  rintro e w' ⟨rfl, rfl⟩
  go_wp2_with fail
  go_ret2
  refine ⟨.iface 157 (.pointer (some ⟨w.heap.size + 1 + 1 + 1, 0, none⟩)), rfl, ?_, (((Below.refl _ w).alloc (Nat.le_refl _) _).alloc (by simp) _).trans ((wK1_below _ _).mono (by simp; omega))⟩
  have h := mis1 ((w.alloc (.cells #[.int .i64 a] 106)).alloc (.cells #[mf ⟨w.heap.size, 0, none⟩, .nilIface] 49)) ⟨w.heap.size, 0, none⟩
  simpa using h
set_option maxHeartbeats 8000000 in
theorem meshes_nm {a b : Int} {c : Bool} (w : World) (ha : inR a 6 240 = true) (hb : inR b 6 240 = false) :
    Calls Tryz.prog 33 #[.int .i64 a, .int .i64 b, .bool c] w fun e w' => ∃ v, e = .returned (.tuple #[.int .i64 0, v]) ∧ isMis v w' ∧ Below w.heap.size w w' := by
  have hA := fun w => gear_yes (n := a) w ha
  have hB := fun w => gear_no (n := b) w hb
  have tE := Tryz.underlying49
  have hJ := Join_nm (w.heap.size + 1) ⟨w.heap.size, 0, none⟩ ((w.alloc (.cells #[.int .i64 b] 106)).alloc (.cells #[.nilIface, mf ⟨w.heap.size, 0, none⟩] 49)) (by simp) (by simp)
  clear ha hb
  go_enter Tryz.func33, Tryz.ntmps33
  go_wp2_with fail
  go_at_call 67
  refine (hA _).mono ?_
  rintro e w' ⟨rfl, hw⟩
  subst w'
  go_wp2_with fail
  go_at_call 67
  refine (hB _).mono ?_
  rintro e w' ⟨rfl, hw⟩
  subst w'
  go_wp2_with fail
  go_at_call 66
  refine hJ.mono ?_
  rintro e w' ⟨rfl, rfl⟩
  go_wp2_with fail
  go_ret2
  refine ⟨.iface 157 (.pointer (some ⟨w.heap.size + 1 + 1 + 1, 0, none⟩)), rfl, ?_, (((Below.refl _ w).alloc (Nat.le_refl _) _).alloc (by simp) _).trans ((wK1_below _ _).mono (by simp; omega))⟩
  have h := mis1 ((w.alloc (.cells #[.int .i64 b] 106)).alloc (.cells #[.nilIface, mf ⟨w.heap.size, 0, none⟩] 49)) ⟨w.heap.size, 0, none⟩
  simpa using h
set_option maxHeartbeats 8000000 in
theorem meshes_mm {a b : Int} {c : Bool} (w : World) (ha : inR a 6 240 = false) (hb : inR b 6 240 = false) :
    Calls Tryz.prog 33 #[.int .i64 a, .int .i64 b, .bool c] w fun e w' => ∃ v, e = .returned (.tuple #[.int .i64 0, v]) ∧ isMis v w' ∧ Below w.heap.size w w' := by
  have hA := fun w => gear_no (n := a) w ha
  have hB := fun w => gear_no (n := b) w hb
  have tE := Tryz.underlying49
  have hJ := Join_mm (w.heap.size + 1 + 1) ⟨w.heap.size, 0, none⟩ ⟨w.heap.size + 1, 0, none⟩ (((w.alloc (.cells #[.int .i64 a] 106)).alloc (.cells #[.int .i64 b] 106)).alloc (.cells #[mf ⟨w.heap.size, 0, none⟩, mf ⟨w.heap.size + 1, 0, none⟩] 49)) (by rw [World.cell?_alloc_at _ _ _ _ (by simp)]; rfl) (by rw [World.cell?_alloc_at _ _ _ _ (by simp)]; rfl)
  clear ha hb
  go_enter Tryz.func33, Tryz.ntmps33
  go_wp2_with fail
  go_at_call 67
  refine (hA _).mono ?_
  rintro e w' ⟨rfl, hw⟩
  subst w'
  go_wp2_with fail
  go_at_call 67
  refine (hB _).mono ?_
  rintro e w' ⟨rfl, hw⟩
  subst w'
  go_wp2_with fail
  go_at_call 66
  refine hJ.mono ?_
  rintro e w' ⟨rfl, rfl⟩
  go_wp2_with fail
  go_ret2
  refine ⟨.iface 157 (.pointer (some ⟨w.heap.size + 1 + 1 + 1 + 1, 0, none⟩)), rfl, ?_, ((((Below.refl _ w).alloc (Nat.le_refl _) _).alloc (by simp) _).alloc (by simp; omega) _).trans ((wK2_below _ _ _).mono (by simp; omega))⟩
  have h := mis2 (((w.alloc (.cells #[.int .i64 a] 106)).alloc (.cells #[.int .i64 b] 106)).alloc (.cells #[mf ⟨w.heap.size, 0, none⟩, mf ⟨w.heap.size + 1, 0, none⟩] 49)) ⟨w.heap.size, 0, none⟩ ⟨w.heap.size + 1, 0, none⟩
  simpa using h
set_option maxHeartbeats 8000000 in
theorem meshes_in {a b : Int} (w : World) (ha : inR a 6 240 = true) (hb : inR b 6 240 = true) (hc : b ≥ a) :
    Calls Tryz.prog 33 #[.int .i64 a, .int .i64 b, .bool true] w fun e w' => ∃ v, e = .returned (.tuple #[.int .i64 0, v]) ∧ isMis v w' ∧ Below w.heap.size w w' := by
  have hA := fun w => gear_yes (n := a) w ha
  have hB := fun w => gear_yes (n := b) w hb
  have tE := Tryz.underlying49
  have hJ := Join_nn w.heap.size (w.alloc (.cells #[.nilIface, .nilIface] 49)) (by simp) (by simp)
  clear ha hb
  go_enter Tryz.func33, Tryz.ntmps33
  go_wp2_with fail
  go_at_call 67
  refine (hA _).mono ?_
  rintro e w' ⟨rfl, hw⟩
  subst w'
  go_wp2_with fail
  go_at_call 67
  refine (hB _).mono ?_
  rintro e w' ⟨rfl, hw⟩
  subst w'
  go_wp2_with fail
  go_at_call 66
  refine hJ.mono ?_
  rintro e w' ⟨rfl, rfl⟩
  go_wp2_with fail
  go_ret2
  exact ⟨_, rfl, .inl ⟨_, rfl⟩, ((Below.refl _ w).alloc (Nat.le_refl _) _).alloc (by simp) _⟩

def okMe (a b : Int) (c : Bool) : Bool := inR a 6 240 && (inR b 6 240 && !(c && decide (b ≥ a)))
theorem meshes_no {a b : Int} {c : Bool} (w : World) (h : okMe a b c = false) :
    Calls Tryz.prog 33 #[.int .i64 a, .int .i64 b, .bool c] w fun e w' => ∃ v, e = .returned (.tuple #[.int .i64 0, v]) ∧ isMis v w' ∧ Below w.heap.size w w' := by
  cases ha : inR a 6 240 with
  | false =>
    cases hb : inR b 6 240 with
    | false => exact meshes_mm w ha hb
    | true => exact meshes_mn w ha hb
  | true =>
    cases hb : inR b 6 240 with
    | false => exact meshes_nm w ha hb
    | true =>
      cases c with
      | false => rw [okMe, ha, hb] at h; cases h
      | true =>
        have hc : decide (b ≥ a) = true := by
          cases hd : decide (b ≥ a) with
          | true => rfl
          | false => rw [okMe, ha, hb, hd] at h; cases h
        exact meshes_in w ha hb (of_decide_eq_true hc)

end Go.Proofs.YtddhmidegldhdaaGreatDoor

/- l1Gcd, the reference's: its word. Conditions: numbers of 64 bits. -/
namespace Go.Proofs.YtddhmidegldhdaaGreatDoor
open Go.RowKit
set_option maxRecDepth 100000

abbrev lvGc : Ex → List Nat := lv3 [0, 1] [0] [4]
theorem rndGc (a b : Int) : execC Tryz.prog g0 100 noLam (loopAt 0 Tryz.f40) (mkT 0 17 ((lvGc .normal).zip [.v (i64 a), .v (i64 b)])) [] (leafV 17 lvGc 0)
    = bif b != (0 : Int) then needs [!decide (b = (0 : Int))] (Res.out .normal [AV.v (.int .i64 b), AV.v (.int .i64 (Int.tmod a b))] []) else Res.out (Ex.exit (0 : Nat)) [AV.v (.int .i64 a)] [] := by kernel_rfl

noncomputable abbrev lamGc (a b c : Int) : Nat → Option Sum := oneL 0 (atS 17 (lvGc .normal) 0 [.v (i64 a), .v (i64 b)] [] (fun K => K .normal (mkT 0 17 [(0, .v (i64 c))]) []))
theorem treeGc (a b c : Int) : execF Tryz.prog g0 (lamGc a b c) 100 Tryz.f40 [.v (i64 a), .v (i64 b)] [] (packK 0)
    = needs [chk ([AV.v (.int .i64 a), AV.v (.int .i64 b)] = [AV.v (.int .i64 a), AV.v (.int .i64 b)] ∧ Hsim [] [])] (Res.out .ret [AV.v (.int .i64 (if IntKind.wrap .i64 ((0 : Int) - c) > c then IntKind.wrap .i64 ((0 : Int) - c) else c))] []) := by kernel_rfl

def gcdE : Nat → Int → Int → Int
  | 0, a, _ => a
  | n + 1, a, b => if b = 0 then a else gcdE n b (a.tmod b)

theorem sumGc (a b : Int) : SumOk Tryz.prog 0 (.block 0 (.loop (loopAt 0 Tryz.f40))) (atS 17 (lvGc .normal) 0 [.v (i64 a), .v (i64 b)] [] (fun K => K .normal (mkT 0 17 [(0, .v (i64 (gcdE (b.natAbs + 1) a b)))]) [])) := by
  refine loop_at g0_ok (n := 100) (m := 0) (lv := lvGc) (σ := Nat × Int × Int) (fun s => [.v (i64 s.2.1), .v (i64 s.2.2)]) (fun _ => []) (fun s => s.2.2.natAbs < s.1 ∧ gcdE s.1 s.2.1 s.2.2 = gcdE (b.natAbs + 1) a b) (fun s => s.1) (b.natAbs + 1, a, b) (fun _ => noLam) (lv3_ris rfl rfl rfl) (Nat.le_refl _) ⟨Nat.lt_succ_self _, rfl⟩ fun K Q hk s hs => ⟨noLam_ok _ _ _, ?_⟩
  obtain ⟨n, x, y⟩ := s
  obtain ⟨h1, h2⟩ := hs
  rw [rndGc]
  cases n with
  | zero => exact absurd h1 (Nat.not_lt_zero _)
  | succ n =>
    refine good_cond (fun c => ?_) fun c => ?_
    · have c : y ≠ 0 := by simpa using c
      have h2 : gcdE n y (x.tmod y) = gcdE (b.natAbs + 1) a b := by
        rw [← h2]
        show _ = if y = 0 then x else gcdE n y (x.tmod y)
        rw [if_neg c]
      have h1 : y.natAbs < n + 1 := h1
      have h3 : (x.tmod y).natAbs < y.natAbs := by
        rw [Int.natAbs_tmod]
        exact Nat.mod_lt _ (by omega)
      exact good_needs (by simp [obls, c]) (good_out ⟨(n, y, x.tmod y), ⟨⟨by show (x.tmod y).natAbs < n; omega, h2⟩, Nat.lt_succ_self _⟩, rfl, .nil⟩)
    · have c : y = 0 := by simpa using c
      have h2 : x = gcdE (b.natAbs + 1) a b := by
        rw [← h2]
        show _ = if y = 0 then x else gcdE n y (x.tmod y)
        rw [if_pos c]
      refine good_out ⟨_, .nil, ?_⟩
      rw [if_pos rfl]
      rw [← h2] at hk
      exact hk

def gcdF (a b : Int) : Int := if IntKind.wrap IntKind.i64 (0 - gcdE (b.natAbs + 1) a b) > gcdE (b.natAbs + 1) a b then IntKind.wrap IntKind.i64 (0 - gcdE (b.natAbs + 1) a b) else gcdE (b.natAbs + 1) a b
def F_gcd : List SA → Option FR
  | [.v (.int .i64 a), .v (.int .i64 b)] => some { val := .v (i64 (gcdF a b)) }
  | _ => none
theorem ok_gcd : SpecOk Tryz.prog 40 (specR [.val, .val] F_gcd) := by
  refine specR_hr g0_ok Tryz.func40 rfl fun sas fr hF ho => ?_
  unfold F_gcd at hF
  split at hF
  · rename_i a b
    cases hF
    refine ⟨[], lamGc a b (gcdE (b.natAbs + 1) a b), 100, .nil, lam1 (by kernel_rfl) (sumGc a b), ?_⟩
    show GoodQ (execF Tryz.prog g0 (lamGc a b (gcdE (b.natAbs + 1) a b)) 100 Tryz.f40 [.v (i64 a), .v (i64 b)] [] (packK 0)) _
    rw [treeGc]
    exact good_needs (by rw [ob_cons]; exact ⟨chk_of ⟨rfl, .nil⟩, rfl⟩) (good_out ⟨_, rfl, rfl, .nil⟩)
  · cases hF

end Go.Proofs.YtddhmidegldhdaaGreatDoor

/- The reference's RingDesign: trees; greatest common divisors. Conditions: numbers of 64 bits. -/
namespace Go.Proofs.YtddhmidegldhdaaGreatDoor
open Go.RowKit
set_option maxRecDepth 100000

theorem gcdE_abs : ∀ (n : Nat) (a b : Int), b.natAbs < n → (gcdE n a b).natAbs = Nat.gcd a.natAbs b.natAbs
  | 0, _, _, h => absurd h (Nat.not_lt_zero _)
  | n + 1, a, b, h => by
    unfold gcdE
    split
    · rename_i hb
      subst hb
      simp
    · rename_i hb
      have e : (a.tmod b).natAbs = a.natAbs % b.natAbs := Int.natAbs_tmod _ _
      have hlt : a.natAbs % b.natAbs < b.natAbs := Nat.mod_lt _ (by omega)
      rw [gcdE_abs n b (a.tmod b) (by omega), e, Nat.gcd_comm a.natAbs, Nat.gcd_rec b.natAbs a.natAbs, Nat.gcd_comm]
theorem gcdF_eq {a b : Int} (ha : -1000000000000 ≤ a ∧ a ≤ 1000000000000) (hb : -1000000000000 ≤ b ∧ b ≤ 1000000000000) : gcdF a b = (Nat.gcd a.natAbs b.natAbs : Int) := by
  have h := gcdE_abs (b.natAbs + 1) a b (Nat.lt_succ_self _)
  have hle : Nat.gcd a.natAbs b.natAbs ≤ 1000000000000 := by
    by_cases h0 : a.natAbs = 0
    · rw [h0, Nat.gcd_zero_left]
      omega
    · exact Nat.le_trans (Nat.gcd_le_left _ (by omega)) (by omega)
  unfold gcdF
  rw [wr_in (by omega)]
  split <;> omega

theorem treeNu (s r : Int) : execF Tryz.prog g0 noLam 100 Tryz.f42 [.v (i64 s), .v (i64 r)] [] (packK 0)
    = Res.out .ret [AV.agg [AV.v (.int .i64 s), AV.v (.int .i64 r), AV.v (.int .i64 0), AV.v (.int .i64 0), AV.v (.int .i64 0), AV.v (.int .i64 0), AV.v (.int .i64 0), AV.v (.int .i64 0), AV.v (.int .i64 0)]] [] := by kernel_rfl

def FnuO : List SA → Option FR
  | [.v (.int .i64 s), .v (.int .i64 r)] => some { val := .agg [.v (i64 s), .v (i64 r), .v (i64 0), .v (i64 0), .v (i64 0), .v (i64 0), .v (i64 0), .v (i64 0), .v (i64 0)] }
  | _ => none
theorem ok_num : SpecOk Tryz.prog 42 (specR [.val, .val] FnuO) := by
  refine specR_hr g0_ok Tryz.func42 rfl fun sas fr hF ho => ?_
  unfold FnuO at hF
  split at hF
  · rename_i s r
    cases hF
    refine ⟨[], noLam, 100, .nil, noLam' _, ?_⟩
    show GoodQ (execF Tryz.prog g0 noLam 100 Tryz.f42 [.v (i64 s), .v (i64 r)] [] (packK 0)) _
    rw [treeNu]
    exact good_out ⟨_, rfl, rfl, .nil⟩
  · cases hF
def FgcO (gf : Int → Int → Int) : List SA → Option FR
  | [.v (.int .i64 a), .v (.int .i64 b)] => some { val := .v (i64 (gf a b)) }
  | _ => none
theorem specR_sub' {P : Program} {f : FuncId} {mds : List Md} {F F' : List SA → Option FR} (h : ∀ sas fr', F' sas = some fr' → ∃ fr, F sas = some fr ∧ fr.val = fr'.val ∧ fr.new = fr'.new ∧ fr.put = fr'.put ∧ (obls fr'.obl = true → obls fr.obl = true)) (hs : SpecOk P f (specR mds F)) : SpecOk P f (specR mds F') := by
  refine ⟨hs.1, fun avs H base δ ν vals w hS ho hv hr hlt hf hsep htab => ?_⟩
  unfold specR at hS
  split at hS
  case h_2 => cases hS
  rename_i xs hxs
  split at hS
  case h_2 => cases hS
  rename_i fr' hF
  obtain ⟨fr, e, e1, e2, e3, e4⟩ := h _ _ hF
  split at hS
  case h_2 => cases hS
  rename_i av hav
  cases hc : ((!hasWr mds || nodupB ((ixC mds xs).filterMap id)) && fr'.new.all isRowT && Nat.beq (abP mds (xs.map (·.sa)) fr'.put).length (abC mds (xs.map (·.sa))).length) with
  | false => rw [hc] at hS; cases hS
  | true =>
  rw [hc] at hS
  simp only [cond_true, Option.some.injEq] at hS
  subst hS
  have ho' : obls (xs.flatMap (·.ob)) = true ∧ obls fr'.obl = true := by simpa [obls, List.all_append] using ho
  have hS2 : specR mds F avs H base = some { val := av, rd := (ixC mds xs).filterMap id, put := putC (ixC mds xs) (abP mds (xs.map (·.sa)) fr'.put), new := fr'.new, obl := xs.flatMap (·.ob) ++ fr.obl } := by
    unfold specR
    rw [hxs]
    simp only [e]
    rw [e1, e2, e3, hav]
    simp only [hc]
    rfl
  refine (hs.2 avs H base _ ν vals w hS2 (by simpa [obls, List.all_append] using And.intro ho'.1 (e4 ho'.2)) hv hr hlt hf hsep (htab.call fun x hx => by first | exact hx | cases hx)).mono ?_
  rintro e w' ⟨v, ν', rfl, d⟩
  exact ⟨v, ν', rfl, d.le, d.dom, d.val, d.put, d.new, d.os, d.tape, d.output, d.size, d.block, d.fresh, d.apart⟩
def Fti2 (ti : List Wh → List Wh) (okt : List Wh → Bool) : List SA → Option FR
  | [.row 2 g] => match g 0, g 1 with
    | [.int .i64 a0, .int .i64 a1, .int .i64 a2, .int .i64 a3, .int .i64 a4, .int .i64 a5, .int .i64 a6, .int .i64 a7, .int .i64 a8], [.int .i64 b0, .int .i64 b1, .int .i64 b2, .int .i64 b3, .int .i64 b4, .int .i64 b5, .int .i64 b6, .int .i64 b7, .int .i64 b8] => some { val := .tup [.own 0 (ti [⟨a0, ⟨a1, a2, a3, a4, a5, a6, a7, a8⟩⟩, ⟨b0, ⟨b1, b2, b3, b4, b5, b6, b7, b8⟩⟩]).length, .v (.bool (okt [⟨a0, ⟨a1, a2, a3, a4, a5, a6, a7, a8⟩⟩, ⟨b0, ⟨b1, b2, b3, b4, b5, b6, b7, b8⟩⟩]))], new := [.row true (ti [⟨a0, ⟨a1, a2, a3, a4, a5, a6, a7, a8⟩⟩, ⟨b0, ⟨b1, b2, b3, b4, b5, b6, b7, b8⟩⟩]).length 9 (row9 (wfun (ti [⟨a0, ⟨a1, a2, a3, a4, a5, a6, a7, a8⟩⟩, ⟨b0, ⟨b1, b2, b3, b4, b5, b6, b7, b8⟩⟩]))) 60] }
    | _, _ => none
  | _ => none
theorem ok_ti2 : SpecOk Tryz.prog 41 (specR md_ws (Fti2 tidyL okT)) := by
  have h := ok_tidyS
  rw [← FtidyO_eq] at h
  refine specR_sub' (fun sas fr hF => ?_) h
  unfold Fti2 at hF
  split at hF
  · rename_i g
    split at hF
    · rename_i a0 a1 a2 a3 a4 a5 a6 a7 a8 b0 b1 b2 b3 b4 b5 b6 b7 b8 e0 e1
      cases hF
      have hL : listW (itW g) 2 = [⟨a0, ⟨a1, a2, a3, a4, a5, a6, a7, a8⟩⟩, ⟨b0, ⟨b1, b2, b3, b4, b5, b6, b7, b8⟩⟩] := by
        show [whOf (itW g 0), whOf (itW g 1)] = _
        unfold whOf itW
        rw [e0, e1]
        rfl
      refine ⟨_, rfl, by simp only [hL], by simp only [hL], rfl, ?_⟩
      · have ha : allW 2 g = true := List.all_eq_true.2 fun j hj => by
          have hj : j < 2 := by simpa using hj
          rcases (by omega : j = 0 ∨ j = 1) with rfl | rfl
          · rw [e0]; rfl
          · rw [e1]; rfl
        intro _
        simp only [ob_cons, ob_nil, and_true]
        exact ⟨ha, by decide⟩
    · cases hF
  · cases hF
def gmRd (gf : Int → Int → Int) (ti : List Wh → List Wh) (okt : List Wh → Bool) : Gam := ext (ext (ext gm_l6In 40 (specR [.val, .val] (FgcO gf))) 42 (specR [.val, .val] FnuO)) 41 (specR md_ws (Fti2 ti okt))
theorem treeRd_h (gf : Int → Int → Int) (ti : List Wh → List Wh) (okt : List Wh → Bool) (a b : Int) (c : Bool) (d : Int) (u3 : _) (hu3 : (0 : Int) = u3) (u4 : _) (hu4 : [AV.tup [AV.own 0 (0 : Nat), AV.v (.bool false)]] = u4) (u5 : _) (hu5 : [AB.row true (0 : Nat) (9 : Nat) (fun _ ↦ []) (60 : Nat)] = u5) (u6 : _) (hu6 : (!decide (gf a b = u3)) = u6) (u7 : _) (hu7 : (IntKind.wrap .i64 (Int.tdiv b (gf a b))) = u7) (u1 : _) (hu1 : [Wh.mk u7 (Cy.mk (IntKind.wrap .i64 (a + b)) u3 u3 u3 u3 u3 u3 u3), Wh.mk (IntKind.wrap .i64 (Int.tdiv (IntKind.wrap .i64 (a + b)) (gf a b))) (Cy.mk (IntKind.wrap .i64 (u3 - d)) u3 u3 u3 u3 u3 u3 u3)] = u1) (u2 : _) (hu2 : [Wh.mk u7 (Cy.mk (IntKind.wrap .i64 (a - b)) u3 u3 u3 u3 u3 u3 u3), Wh.mk (IntKind.wrap .i64 (Int.tdiv (IntKind.wrap .i64 (b - a)) (gf a b))) (Cy.mk d u3 u3 u3 u3 u3 u3 u3)] = u2) (u0 : _) (hu0 : (bif !inR d (-300 : Int) (300 : Int) then Res.out .ret u4 u5 else bif c then needs [u6, u6] (Res.out .ret [AV.tup [AV.own 0 (List.length (ti u2)), AV.v (.bool (okt u2))]] [AB.row true (List.length (ti u2)) (9 : Nat) (row9 (wfun (ti u2))) 60]) else needs [u6, u6] (Res.out .ret [AV.tup [AV.own 0 (List.length (ti u1)), AV.v (.bool (okt u1))]] [AB.row true (List.length (ti u1)) (9 : Nat) (row9 (wfun (ti u1))) 60])) = u0) : execF Tryz.prog (gmRd gf ti okt) noLam 100 Tryz.f12 [.v (i64 a), .v (i64 b), .v (.bool c), .v (i64 d)] [] (packK 0)
    = bif !inR a (6 : Int) (240 : Int) then Res.out .ret u4 u5 else bif !inR b (6 : Int) (240 : Int) then Res.out .ret u4 u5 else bif c then bif decide (b ≥ a) then Res.out .ret u4 u5 else needs [u6] u0 else needs [u6] u0 := by
  subst hu0 hu2 hu1 hu7 hu6 hu5 hu4 hu3
  kernel_rfl
theorem treeRd (gf : Int → Int → Int) (ti : List Wh → List Wh) (okt : List Wh → Bool) (a b : Int) (c : Bool) (d : Int) : type_of% (treeRd_h gf ti okt a b c d _ rfl _ rfl _ rfl _ rfl _ rfl _ rfl _ rfl _ rfl) := treeRd_h gf ti okt a b c d _ rfl _ rfl _ rfl _ rfl _ rfl _ rfl _ rfl _ rfl

def FrdO (rd : Int → Int → Bool → Int → List Wh) (ro : Int → Int → Bool → Int → Bool) : List SA → Option FR
  | [.v (.int .i64 a), .v (.int .i64 b), .v (.bool c), .v (.int .i64 d)] => some { val := .tup [.own 0 (rd a b c d).length, .v (.bool (ro a b c d))], new := [.row true (rd a b c d).length 9 (row9 (wfun (rd a b c d))) 60] }
  | _ => none
def rnP (a b : Int) (c : Bool) (d : Int) : Bool := inR a 6 240 && (inR b 6 240 && (!(c && decide (b ≥ a)) && inR d (-300) 300))
def rnW (a b : Int) (c : Bool) (d : Int) : List Wh := bif c then [⟨IntKind.wrap IntKind.i64 (Int.tdiv b (gcdF a b)), ⟨IntKind.wrap IntKind.i64 (a - b), 0, 0, 0, 0, 0, 0, 0⟩⟩, ⟨IntKind.wrap IntKind.i64 (Int.tdiv (IntKind.wrap IntKind.i64 (b - a)) (gcdF a b)), ⟨d, 0, 0, 0, 0, 0, 0, 0⟩⟩] else [⟨IntKind.wrap IntKind.i64 (Int.tdiv b (gcdF a b)), ⟨IntKind.wrap IntKind.i64 (a + b), 0, 0, 0, 0, 0, 0, 0⟩⟩, ⟨IntKind.wrap IntKind.i64 (Int.tdiv (IntKind.wrap IntKind.i64 (a + b)) (gcdF a b)), ⟨IntKind.wrap IntKind.i64 (0 - d), 0, 0, 0, 0, 0, 0, 0⟩⟩]
def rnL (a b : Int) (c : Bool) (d : Int) : List Wh := bif rnP a b c d then tidyL (rnW a b c d) else []
def rnO (a b : Int) (c : Bool) (d : Int) : Bool := rnP a b c d && okT (rnW a b c d)
theorem gmRd_ok : GamOk Tryz.prog (gmRd gcdF tidyL okT) := by
  refine ext_ok (ext_ok (ext_ok gm_l6In_ok ?_) ok_num) ok_ti2
  have e : FgcO gcdF = F_gcd := by funext l; rfl
  rw [e]
  exact ok_gcd
theorem gcd_nz {a b : Int} (ha : inR a 6 240 = true) (hb : inR b 6 240 = true) : gcdF a b ≠ 0 := by
  have ha := inR_iff.1 ha
  have hb := inR_iff.1 hb
  rw [gcdF_eq (by omega) (by omega)]
  have : 0 < Nat.gcd a.natAbs b.natAbs := Nat.gcd_pos_of_pos_left _ (by omega)
  omega
theorem rnL_no {a b : Int} {c : Bool} {d : Int} (h : rnP a b c d = false) : rnL a b c d = [] ∧ rnO a b c d = false := ⟨by rw [rnL, h]; rfl, by rw [rnO, h]; rfl⟩
theorem rnL_yes {a b : Int} {c : Bool} {d : Int} (h : rnP a b c d = true) : rnL a b c d = tidyL (rnW a b c d) ∧ rnO a b c d = okT (rnW a b c d) := ⟨by rw [rnL, h]; rfl, by rw [rnO, h, Bool.true_and]⟩
theorem rnL_len (a b : Int) (c : Bool) (d : Int) : (rnL a b c d).length ≤ 12 := by
  cases h : rnP a b c d with
  | false => rw [(rnL_no h).1]; exact Nat.zero_le _
  | true =>
    rw [(rnL_yes h).1]
    cases ht : okT (rnW a b c d) with
    | true => exact tidyL_len ht
    | false => rw [tidyL_no ht]; exact Nat.zero_le _
theorem ok_rd : SpecOk Tryz.prog 12 (specR [.val, .val, .val, .val] (FrdO rnL rnO)) := by
  refine specR_hr gmRd_ok Tryz.func12 rfl fun sas fr hF ho => ?_
  unfold FrdO at hF
  split at hF
  · rename_i a b c d
    cases hF
    refine ⟨[], noLam, 100, .nil, noLam' _, ?_⟩
    show GoodQ (execF Tryz.prog (gmRd gcdF tidyL okT) noLam 100 Tryz.f12 [.v (i64 a), .v (i64 b), .v (.bool c), .v (i64 d)] [] (packK 0)) _
    rw [treeRd]
    have bad : rnP a b c d = false → GoodQ (.out .ret [.tup [.own 0 0, .v (.bool false)]] [.row true 0 9 (fun _ => []) 60]) (GivR (abP [.val, .val, .val, .val] [.v (.int .i64 a), .v (.int .i64 b), .v (.bool c), .v (.int .i64 d)] []) { val := .tup [.own 0 (rnL a b c d).length, .v (.bool (rnO a b c d))], new := [.row true (rnL a b c d).length 9 (row9 (wfun (rnL a b c d))) 60] }) := by
      intro h
      rw [(rnL_no h).1, (rnL_no h).2]
      exact good_out ⟨_, rfl, rfl, .cons (ABeq.row fun j hj => absurd hj (Nat.not_lt_zero _)) .nil⟩
    have yes : ∀ M : List Wh, rnP a b c d = true → rnW a b c d = M → GoodQ (.out .ret [.tup [.own 0 (tidyL M).length, .v (.bool (okT M))]] [.row true (tidyL M).length 9 (row9 (wfun (tidyL M))) 60]) (GivR (abP [.val, .val, .val, .val] [.v (.int .i64 a), .v (.int .i64 b), .v (.bool c), .v (.int .i64 d)] []) { val := .tup [.own 0 (rnL a b c d).length, .v (.bool (rnO a b c d))], new := [.row true (rnL a b c d).length 9 (row9 (wfun (rnL a b c d))) 60] }) := by
      rintro M h rfl
      rw [(rnL_yes h).1, (rnL_yes h).2]
      exact good_out ⟨_, rfl, rfl, Hsim.refl _⟩
    cases h1 : inR a 6 240 with
    | false => exact good_true rfl (bad (by rw [rnP, h1]; rfl))
    | true =>
    refine good_false rfl ?_
    cases h2 : inR b 6 240 with
    | false => exact good_true rfl (bad (by rw [rnP, h1, h2]; rfl))
    | true =>
    refine good_false rfl ?_
    have hz : decide (gcdF a b = 0) = false := decide_eq_false (gcd_nz h1 h2)
    rw [hz]
    cases c with
    | true =>
      refine good_true rfl ?_
      cases h3 : decide (b ≥ a) with
      | true => exact good_true rfl (bad (by rw [rnP, h1, h2, h3]; rfl))
      | false =>
      refine good_false rfl (good_needs rfl ?_)
      cases h4 : inR d (-300) 300 with
      | false => exact good_true rfl (bad (by rw [rnP, h1, h2, h3, h4]; rfl))
      | true => exact good_false rfl (good_true rfl (good_needs rfl (yes _ (by rw [rnP, h1, h2, h3, h4]; rfl) rfl)))
    | false =>
      refine good_false rfl (good_needs rfl ?_)
      cases h4 : inR d (-300) 300 with
      | false => exact good_true rfl (bad (by rw [rnP, h1, h2, h4]; rfl))
      | true => exact good_false rfl (good_false rfl (good_needs rfl (yes _ (by rw [rnP, h1, h2, h4]; rfl) rfl)))
  · cases hF

end Go.Proofs.YtddhmidegldhdaaGreatDoor

/- The greatest common divisor, of both. Conditions: numbers up to 10^12. -/
namespace Go.Proofs.YtddhmidegldhdaaGreatDoor
open Go.RowKit
set_option maxRecDepth 100000

def gcdI (a b : Int) : Int := (Nat.gcd a.natAbs b.natAbs : Int)
def FgdO (gf : Int → Int → Int) : List SA → Option FR
  | [.v (.int .i64 a), .v (.int .i64 b)] => some { val := .v (i64 (gf a b)), obl := [inR a (-1000000000000) 1000000000000, inR b (-1000000000000) 1000000000000] }
  | _ => none
abbrev lvGd : Ex → List Nat := lv3 [0, 1] [0] [4]
theorem rndGd (a b : Int) : execC Tryz.prog g0 100 noLam (loopAt 0 Tryz.f61) (mkT 0 15 ((lvGd .normal).zip [.v (i64 a), .v (i64 b)])) [] (leafV 15 lvGd 0)
    = bif b != (0 : Int) then needs [!decide (b = (0 : Int))] (Res.out .normal [AV.v (.int .i64 b), AV.v (.int .i64 (Int.tmod a b))] []) else Res.out (Ex.exit (0 : Nat)) [AV.v (.int .i64 a)] [] := by kernel_rfl

noncomputable abbrev lamGd (a b c : Int) : Nat → Option Sum := oneL 0 (atS 15 (lvGd .normal) 0 [.v (i64 a), .v (i64 b)] [] (fun K => K .normal (mkT 0 15 [(0, .v (i64 c))]) []))
theorem treeGd (a b c : Int) : execF Tryz.prog g0 (lamGd a b c) 100 Tryz.f61 [.v (i64 a), .v (i64 b)] [] (packK 0)
    = needs [chk ([AV.v (.int .i64 a), AV.v (.int .i64 b)] = [AV.v (.int .i64 a), AV.v (.int .i64 b)] ∧ Hsim [] [])] (Res.out .ret [AV.v (.int .i64 (if IntKind.wrap .i64 ((0 : Int) - c) > c then IntKind.wrap .i64 ((0 : Int) - c) else c))] []) := by kernel_rfl

theorem sumGd (a b : Int) : SumOk Tryz.prog 0 (.block 0 (.loop (loopAt 0 Tryz.f61))) (atS 15 (lvGd .normal) 0 [.v (i64 a), .v (i64 b)] [] (fun K => K .normal (mkT 0 15 [(0, .v (i64 (gcdE (b.natAbs + 1) a b)))]) [])) := by
  refine loop_at g0_ok (n := 100) (m := 0) (lv := lvGd) (σ := Nat × Int × Int) (fun s => [.v (i64 s.2.1), .v (i64 s.2.2)]) (fun _ => []) (fun s => s.2.2.natAbs < s.1 ∧ gcdE s.1 s.2.1 s.2.2 = gcdE (b.natAbs + 1) a b) (fun s => s.1) (b.natAbs + 1, a, b) (fun _ => noLam) (lv3_ris rfl rfl rfl) (Nat.le_refl _) ⟨Nat.lt_succ_self _, rfl⟩ fun K Q hk s hs => ⟨noLam_ok _ _ _, ?_⟩
  obtain ⟨n, x, y⟩ := s
  obtain ⟨h1, h2⟩ := hs
  rw [rndGd]
  cases n with
  | zero => exact absurd h1 (Nat.not_lt_zero _)
  | succ n =>
    refine good_cond (fun c => ?_) fun c => ?_
    · have c : y ≠ 0 := by simpa using c
      have h2 : gcdE n y (x.tmod y) = gcdE (b.natAbs + 1) a b := by
        rw [← h2]
        show _ = if y = 0 then x else gcdE n y (x.tmod y)
        rw [if_neg c]
      have h1 : y.natAbs < n + 1 := h1
      have h3 : (x.tmod y).natAbs < y.natAbs := by
        rw [Int.natAbs_tmod]
        exact Nat.mod_lt _ (by omega)
      exact good_needs (by simp [obls, c]) (good_out ⟨(n, y, x.tmod y), ⟨⟨by show (x.tmod y).natAbs < n; omega, h2⟩, Nat.lt_succ_self _⟩, rfl, .nil⟩)
    · have c : y = 0 := by simpa using c
      have h2 : x = gcdE (b.natAbs + 1) a b := by
        rw [← h2]
        show _ = if y = 0 then x else gcdE n y (x.tmod y)
        rw [if_pos c]
      refine good_out ⟨_, .nil, ?_⟩
      rw [if_pos rfl]
      rw [← h2] at hk
      exact hk


theorem ok_gdI : SpecOk Tryz.prog 61 (specR [.val, .val] (FgdO gcdI)) := by
  refine specR_hr g0_ok Tryz.func61 rfl fun sas fr hF ho => ?_
  unfold FgdO at hF
  split at hF
  · rename_i a b
    cases hF
    simp only [ob_cons] at ho
    obtain ⟨ha, hb, _⟩ := ho
    have e := gcdF_eq (inR_iff.1 ha) (inR_iff.1 hb)
    refine ⟨[], lamGd a b (gcdE (b.natAbs + 1) a b), 100, .nil, lam1 (by kernel_rfl) (sumGd a b), ?_⟩
    show GoodQ (execF Tryz.prog g0 (lamGd a b (gcdE (b.natAbs + 1) a b)) 100 Tryz.f61 [.v (i64 a), .v (i64 b)] [] (packK 0)) _
    rw [treeGd]
    refine good_needs (by rw [ob_cons]; exact ⟨chk_of ⟨rfl, .nil⟩, rfl⟩) (good_out ⟨_, rfl, ?_, .nil⟩)
    show [AV.v (i64 (gcdF a b))] = [AV.v (i64 (gcdI a b))]
    rw [e]
    rfl
  · cases hF

end Go.Proofs.YtddhmidegldhdaaGreatDoor

/- DesignPeriod and DesignFold of both: trees. Conditions: a list of wheels. -/
namespace Go.Proofs.YtddhmidegldhdaaGreatDoor
open Go.RowKit
set_option maxRecDepth 100000

end Go.Proofs.YtddhmidegldhdaaGreatDoor

/- DesignPeriod and DesignFold of both: their words. Conditions: a list of wheels. -/
namespace Go.Proofs.YtddhmidegldhdaaGreatDoor
open Go.RowKit
set_option maxRecDepth 100000

end Go.Proofs.YtddhmidegldhdaaGreatDoor

/- meshes where teeth fit: its tree; fits at nil. No conditions. -/
namespace Go.Proofs.YtddhmidegldhdaaGreatDoor
open Go.RowKit
set_option maxRecDepth 100000

def f_fits : List Value → Option (Value × List Bool)
  | [.nilIface] => some (.bool true, [])
  | _ => none
theorem ok_fits : SpecOk Tryz.prog 34 (specV f_fits) := by
  refine specV_ok (fun args w => enters 34 _ Tryz.func34 (by kernel_rfl) args w) fun vs x ob hF ho w _ => ?_
  unfold f_fits at hF
  split at hF
  · simp only [Option.some.injEq, Prod.mk.injEq] at hF
    obtain ⟨rfl, rfl⟩ := hF
    refine (fits_nil w).mono ?_
    rintro e w' ⟨rfl, h⟩
    exact ⟨rfl, h.os, h.tape, h.output, h.size, fun k hk _ => h.block k hk⟩
  · cases hF
def gmMe (gf : Int → Int → Int) : Gam := ext gm_within 61 (specR [.val, .val] (FgdO gf))
theorem treeMe (gf : Int → Int → Int) (a b : Int) (c : Bool) : execF Tryz.prog (gmMe gf) noLam 100 Tryz.f33 [.v (i64 a), .v (i64 b), .v (.bool c)] [] (packK 0)
    = bif !inR a (6 : Int) (240 : Int) then Res.err else bif !inR b (6 : Int) (240 : Int) then Res.err else bif c then bif decide (b ≥ a) then Res.err else needs [inR a (-1000000000000 : Int) (1000000000000 : Int), inR b (-1000000000000 : Int) (1000000000000 : Int)] (Res.out .ret [AV.tup [AV.v (.int .i64 (gf a b)), AV.v Value.nilIface]] []) else needs [inR a (-1000000000000 : Int) (1000000000000 : Int), inR b (-1000000000000 : Int) (1000000000000 : Int)] (Res.out .ret [AV.tup [AV.v (.int .i64 (gf a b)), AV.v Value.nilIface]] []) := by kernel_rfl

end Go.Proofs.YtddhmidegldhdaaGreatDoor

/- meshes where teeth fit: its word; gauss, tidied at two wheels; RingDesign's trees. No conditions. -/
namespace Go.Proofs.YtddhmidegldhdaaGreatDoor
open Go.RowKit
set_option maxRecDepth 100000

def FmeO (ok : Int → Int → Bool → Bool) (gf : Int → Int → Int) : List SA → Option FR
  | [.v (.int .i64 a), .v (.int .i64 b), .v (.bool c)] => some { val := .tup [.v (i64 (gf a b)), .v .nilIface], obl := [ok a b c] }
  | _ => none
theorem gmMe_ok : GamOk Tryz.prog (gmMe gcdI) := ext_ok gm_within_ok ok_gdI
theorem ok_me : SpecOk Tryz.prog 33 (specR [.val, .val, .val] (FmeO okMe gcdI)) := by
  refine specR_hr gmMe_ok Tryz.func33 rfl fun sas fr hF ho => ?_
  unfold FmeO at hF
  split at hF
  · rename_i a b c
    cases hF
    simp only [ob_cons] at ho
    obtain ⟨h, _⟩ := ho
    refine ⟨[], noLam, 100, .nil, noLam' _, ?_⟩
    show GoodQ (execF Tryz.prog (gmMe gcdI) noLam 100 Tryz.f33 [.v (i64 a), .v (i64 b), .v (.bool c)] [] (packK 0)) _
    rw [treeMe]
    rw [okMe, Bool.and_eq_true, Bool.and_eq_true] at h
    obtain ⟨h1, h2, h3⟩ := h
    have i1 := inR_iff.1 h1
    have i2 := inR_iff.1 h2
    have fin : GoodQ (needs [inR a (-1000000000000 : Int) (1000000000000 : Int), inR b (-1000000000000 : Int) (1000000000000 : Int)] (Res.out Ex.ret [AV.tup [AV.v (Value.int IntKind.i64 (gcdI a b)), AV.v Value.nilIface]] [])) (GivR (abP [.val, .val, .val] [.v (.int .i64 a), .v (.int .i64 b), .v (.bool c)] []) { val := .tup [.v (i64 (gcdI a b)), .v .nilIface], obl := [okMe a b c] }) :=
      good_needs (by simp only [ob_cons, ob_nil, and_true]; exact ⟨inR_iff.2 (by omega), inR_iff.2 (by omega)⟩) (good_out ⟨_, rfl, rfl, .nil⟩)
    refine good_false (by rw [h1]; rfl) (good_false (by rw [h2]; rfl) ?_)
    cases c with
    | true =>
      refine good_true rfl (good_false ?_ fin)
      rw [Bool.true_and] at h3
      simpa using h3
    | false => exact good_false rfl fin
  · cases hF

theorem treeGa (re im : Int) : execF Tryz.prog g0 noLam 100 Tryz.f37 [.v (i64 re), .v (i64 im)] [] (packK 0)
    = Res.out .ret [AV.agg [AV.v (.int .i64 re), AV.v (.int .i64 0), AV.v (.int .i64 0), AV.v (.int .i64 0), AV.v (.int .i64 0), AV.v (.int .i64 0), AV.v (.int .i64 im), AV.v (.int .i64 0)]] [] := by kernel_rfl

def FgaO : List SA → Option FR
  | [.v (.int .i64 re), .v (.int .i64 im)] => some { val := .agg [.v (i64 re), .v (i64 0), .v (i64 0), .v (i64 0), .v (i64 0), .v (i64 0), .v (i64 im), .v (i64 0)] }
  | _ => none
theorem ok_ga : SpecOk Tryz.prog 37 (specR [.val, .val] FgaO) := by
  refine specR_hr g0_ok Tryz.func37 rfl fun sas fr hF ho => ?_
  unfold FgaO at hF
  split at hF
  · rename_i re im
    cases hF
    refine ⟨[], noLam, 100, .nil, noLam' _, ?_⟩
    show GoodQ (execF Tryz.prog g0 noLam 100 Tryz.f37 [.v (i64 re), .v (i64 im)] [] (packK 0)) _
    rw [treeGa]
    exact good_out ⟨_, rfl, rfl, .nil⟩
  · cases hF

end Go.Proofs.YtddhmidegldhdaaGreatDoor

/- tidied at two wheels; RingDesign's trees, where teeth fit. No conditions. -/
namespace Go.Proofs.YtddhmidegldhdaaGreatDoor
open Go.RowKit
set_option maxRecDepth 100000

def Fti2Y (ti : List Wh → List Wh) (okt inw : List Wh → Bool) : List SA → Option FR
  | [.row 2 g] => match g 0, g 1 with
    | [.int .i64 a0, .int .i64 a1, .int .i64 a2, .int .i64 a3, .int .i64 a4, .int .i64 a5, .int .i64 a6, .int .i64 a7, .int .i64 a8], [.int .i64 b0, .int .i64 b1, .int .i64 b2, .int .i64 b3, .int .i64 b4, .int .i64 b5, .int .i64 b6, .int .i64 b7, .int .i64 b8] => some { val := valY (ti [⟨a0, ⟨a1, a2, a3, a4, a5, a6, a7, a8⟩⟩, ⟨b0, ⟨b1, b2, b3, b4, b5, b6, b7, b8⟩⟩]), new := newY (ti [⟨a0, ⟨a1, a2, a3, a4, a5, a6, a7, a8⟩⟩, ⟨b0, ⟨b1, b2, b3, b4, b5, b6, b7, b8⟩⟩]), obl := [inw [⟨a0, ⟨a1, a2, a3, a4, a5, a6, a7, a8⟩⟩, ⟨b0, ⟨b1, b2, b3, b4, b5, b6, b7, b8⟩⟩], okt [⟨a0, ⟨a1, a2, a3, a4, a5, a6, a7, a8⟩⟩, ⟨b0, ⟨b1, b2, b3, b4, b5, b6, b7, b8⟩⟩]] }
    | _, _ => none
  | _ => none
def Fti2N (okt inw : List Wh → Bool) : List SA → Option FR
  | [.row 2 g] => match g 0, g 1 with
    | [.int .i64 a0, .int .i64 a1, .int .i64 a2, .int .i64 a3, .int .i64 a4, .int .i64 a5, .int .i64 a6, .int .i64 a7, .int .i64 a8], [.int .i64 b0, .int .i64 b1, .int .i64 b2, .int .i64 b3, .int .i64 b4, .int .i64 b5, .int .i64 b6, .int .i64 b7, .int .i64 b8] => some { val := valN, obl := [inw [⟨a0, ⟨a1, a2, a3, a4, a5, a6, a7, a8⟩⟩, ⟨b0, ⟨b1, b2, b3, b4, b5, b6, b7, b8⟩⟩], !okt [⟨a0, ⟨a1, a2, a3, a4, a5, a6, a7, a8⟩⟩, ⟨b0, ⟨b1, b2, b3, b4, b5, b6, b7, b8⟩⟩]] }
    | _, _ => none
  | _ => none
theorem two_row {g : Nat → List Value} {a0 a1 a2 a3 a4 a5 a6 a7 a8 b0 b1 b2 b3 b4 b5 b6 b7 b8 : Int} (e0 : g 0 = [.int .i64 a0, .int .i64 a1, .int .i64 a2, .int .i64 a3, .int .i64 a4, .int .i64 a5, .int .i64 a6, .int .i64 a7, .int .i64 a8]) (e1 : g 1 = [.int .i64 b0, .int .i64 b1, .int .i64 b2, .int .i64 b3, .int .i64 b4, .int .i64 b5, .int .i64 b6, .int .i64 b7, .int .i64 b8]) :
    listW (itW g) 2 = [⟨a0, ⟨a1, a2, a3, a4, a5, a6, a7, a8⟩⟩, ⟨b0, ⟨b1, b2, b3, b4, b5, b6, b7, b8⟩⟩] ∧ allW 2 g = true := by
  refine ⟨?_, List.all_eq_true.2 fun j hj => ?_⟩
  · show [whOf (itW g 0), whOf (itW g 1)] = _
    unfold whOf itW
    rw [e0, e1]
    rfl
  · have hj : j < 2 := by simpa using hj
    rcases (by omega : j = 0 ∨ j = 1) with rfl | rfl
    · rw [e0]; rfl
    · rw [e1]; rfl
theorem ok_ti2Y : SpecOk Tryz.prog 36 (specR md_ws (Fti2Y tidyL okT inWB)) := by
  refine specR_sub' (fun sas fr hF => ?_) ok_tiY
  unfold Fti2Y at hF
  split at hF
  · rename_i g
    split at hF
    · rename_i a0 a1 a2 a3 a4 a5 a6 a7 a8 b0 b1 b2 b3 b4 b5 b6 b7 b8 e0 e1
      cases hF
      obtain ⟨hL, ha⟩ := two_row e0 e1
      refine ⟨_, rfl, by simp only [hL], by simp only [hL], rfl, fun h => ?_⟩
      simp only [ob_cons, ob_nil, and_true] at h ⊢
      rw [hL]
      exact ⟨ha, by decide, h.1, h.2⟩
    · cases hF
  · cases hF
theorem ok_ti2N : SpecOk Tryz.prog 36 (specR md_ws (Fti2N okT inWB)) := by
  refine specR_sub' (fun sas fr hF => ?_) ok_tiN
  unfold Fti2N at hF
  split at hF
  · rename_i g
    split at hF
    · rename_i a0 a1 a2 a3 a4 a5 a6 a7 a8 b0 b1 b2 b3 b4 b5 b6 b7 b8 e0 e1
      cases hF
      obtain ⟨hL, ha⟩ := two_row e0 e1
      refine ⟨_, rfl, rfl, rfl, rfl, fun h => ?_⟩
      simp only [ob_cons, ob_nil, and_true] at h ⊢
      rw [hL]
      exact ⟨ha, by decide, h.1, h.2⟩
    · cases hF
  · cases hF
def gmRg (ok : Int → Int → Bool → Bool) (gf : Int → Int → Int) : Gam := ext (ext (ext gm_within 33 (specR [.val, .val, .val] (FmeO ok gf))) 34 (specV f_fits)) 37 (specR [.val, .val] FgaO)
def gmRgY (ok : Int → Int → Bool → Bool) (gf : Int → Int → Int) (ti : List Wh → List Wh) (okt inw : List Wh → Bool) : Gam := ext (gmRg ok gf) 36 (specR md_ws (Fti2Y ti okt inw))
def gmRgN (ok : Int → Int → Bool → Bool) (gf : Int → Int → Int) (okt inw : List Wh → Bool) : Gam := ext (gmRg ok gf) 36 (specR md_ws (Fti2N okt inw))
theorem treeRgY_h (ok : Int → Int → Bool → Bool) (gf : Int → Int → Int) (ti : List Wh → List Wh) (okt inw : List Wh → Bool) (a b : Int) (c : Bool) (d : Int) (u2 : _) (hu2 : (0 : Int) = u2) (u3 : _) (hu3 : (!decide (gf a b = u2)) = u3) (u4 : _) (hu4 : (IntKind.wrap .i64 (Int.tdiv b (gf a b))) = u4) (u5 : _) (hu5 : (0 : Nat) = u5) (u0 : _) (hu0 : [Wh.mk u4 (Cy.mk (IntKind.wrap .i64 (a + b)) u2 u2 u2 u2 u2 u2 u2), Wh.mk (IntKind.wrap .i64 (Int.tdiv (IntKind.wrap .i64 (a + b)) (gf a b))) (Cy.mk (IntKind.wrap .i64 (u2 - d)) u2 u2 u2 u2 u2 u2 u2)] = u0) (u1 : _) (hu1 : [Wh.mk u4 (Cy.mk (IntKind.wrap .i64 (a - b)) u2 u2 u2 u2 u2 u2 u2), Wh.mk (IntKind.wrap .i64 (Int.tdiv (IntKind.wrap .i64 (u2 - IntKind.wrap .i64 (a - b))) (gf a b))) (Cy.mk d u2 u2 u2 u2 u2 u2 u2)] = u1) : execF Tryz.prog (gmRgY ok gf ti okt inw) noLam 100 Tryz.f11 [.v (i64 a), .v (i64 b), .v (.bool c), .v (i64 d)] [] (packK 0)
    = needs [ok a b c] (bif !inR d (-300 : Int) (300 : Int) then Res.out .ret [AV.tup [AV.v (Value.slice none u5 u5), AV.v (.bool false)]] [] else bif c then needs [u3, u3, inw u1, okt u1] (Res.out .ret [AV.tup [AV.sl u5 (9 : Nat) u5 u5 (List.length (ti u1)) (some (List.length (ti u1))), AV.v (.bool true)]] [AB.row true (List.length (ti u1)) (9 : Nat) (row9 (wfun (ti u1))) 60]) else needs [u3, u3, inw u0, okt u0] (Res.out .ret [AV.tup [AV.sl u5 (9 : Nat) u5 u5 (List.length (ti u0)) (some (List.length (ti u0))), AV.v (.bool true)]] [AB.row true (List.length (ti u0)) (9 : Nat) (row9 (wfun (ti u0))) 60])) := by
  subst hu1 hu0 hu5 hu4 hu3 hu2
  kernel_rfl
theorem treeRgY (ok : Int → Int → Bool → Bool) (gf : Int → Int → Int) (ti : List Wh → List Wh) (okt inw : List Wh → Bool) (a b : Int) (c : Bool) (d : Int) : type_of% (treeRgY_h ok gf ti okt inw a b c d _ rfl _ rfl _ rfl _ rfl _ rfl _ rfl) := treeRgY_h ok gf ti okt inw a b c d _ rfl _ rfl _ rfl _ rfl _ rfl _ rfl

theorem treeRgN_h (ok : Int → Int → Bool → Bool) (gf : Int → Int → Int) (okt inw : List Wh → Bool) (a b : Int) (c : Bool) (d : Int) (u0 : _) (hu0 : (0 : Int) = u0) (u3 : _) (hu3 : [AV.tup [AV.v (Value.slice none (0 : Nat) (0 : Nat)), AV.v (.bool false)]] = u3) (u4 : _) (hu4 : (!decide (gf a b = u0)) = u4) (u5 : _) (hu5 : (IntKind.wrap .i64 (Int.tdiv b (gf a b))) = u5) (u1 : _) (hu1 : [Wh.mk u5 (Cy.mk (IntKind.wrap .i64 (a + b)) u0 u0 u0 u0 u0 u0 u0), Wh.mk (IntKind.wrap .i64 (Int.tdiv (IntKind.wrap .i64 (a + b)) (gf a b))) (Cy.mk (IntKind.wrap .i64 (u0 - d)) u0 u0 u0 u0 u0 u0 u0)] = u1) (u2 : _) (hu2 : [Wh.mk u5 (Cy.mk (IntKind.wrap .i64 (a - b)) u0 u0 u0 u0 u0 u0 u0), Wh.mk (IntKind.wrap .i64 (Int.tdiv (IntKind.wrap .i64 (u0 - IntKind.wrap .i64 (a - b))) (gf a b))) (Cy.mk d u0 u0 u0 u0 u0 u0 u0)] = u2) : execF Tryz.prog (gmRgN ok gf okt inw) noLam 100 Tryz.f11 [.v (i64 a), .v (i64 b), .v (.bool c), .v (i64 d)] [] (packK 0)
    = needs [ok a b c] (bif !inR d (-300 : Int) (300 : Int) then Res.out .ret u3 [] else bif c then needs [u4, u4, inw u2, !okt u2] (Res.out .ret u3 []) else needs [u4, u4, inw u1, !okt u1] (Res.out .ret u3 [])) := by
  subst hu2 hu1 hu5 hu4 hu3 hu0
  kernel_rfl
theorem treeRgN (ok : Int → Int → Bool → Bool) (gf : Int → Int → Int) (okt inw : List Wh → Bool) (a b : Int) (c : Bool) (d : Int) : type_of% (treeRgN_h ok gf okt inw a b c d _ rfl _ rfl _ rfl _ rfl _ rfl _ rfl) := treeRgN_h ok gf okt inw a b c d _ rfl _ rfl _ rfl _ rfl _ rfl _ rfl

end Go.Proofs.YtddhmidegldhdaaGreatDoor

/- The program's RingDesign and RingCusps, where teeth fit: their words. No conditions. -/
namespace Go.Proofs.YtddhmidegldhdaaGreatDoor
open Go.RowKit
set_option maxRecDepth 100000

theorem gcdFI {a b : Int} (ha : inR a 6 240 = true) (hb : inR b 6 240 = true) : gcdF a b = gcdI a b := by
  have ha := inR_iff.1 ha
  have hb := inR_iff.1 hb
  exact gcdF_eq (by omega) (by omega)
theorem gmRg_ok : GamOk Tryz.prog (gmRg okMe gcdI) := ext_ok (ext_ok (ext_ok gm_within_ok ok_me) ok_fits) ok_ga
theorem gmRgY_ok : GamOk Tryz.prog (gmRgY okMe gcdI tidyL okT inWB) := ext_ok gmRg_ok ok_ti2Y
theorem gmRgN_ok : GamOk Tryz.prog (gmRgN okMe gcdI okT inWB) := ext_ok gmRg_ok ok_ti2N
theorem rnP_eq (a b : Int) (c : Bool) (d : Int) : rnP a b c d = (okMe a b c && inR d (-300) 300) := by
  rw [rnP, okMe]
  cases inR a 6 240 <;> cases inR b 6 240 <;> cases c <;> cases decide (b ≥ a) <;> rfl
theorem okM_in {a b : Int} {c : Bool} (h : okMe a b c = true) : inR a 6 240 = true ∧ inR b 6 240 = true := by
  rw [okMe, Bool.and_eq_true, Bool.and_eq_true] at h
  exact ⟨h.1, h.2.1⟩
def rmI (a b d : Int) : List Wh := [⟨IntKind.wrap IntKind.i64 (Int.tdiv b (gcdI a b)), ⟨IntKind.wrap IntKind.i64 (a - b), 0, 0, 0, 0, 0, 0, 0⟩⟩, ⟨IntKind.wrap IntKind.i64 (Int.tdiv (IntKind.wrap IntKind.i64 (0 - IntKind.wrap IntKind.i64 (a - b))) (gcdI a b)), ⟨d, 0, 0, 0, 0, 0, 0, 0⟩⟩]
def rmO (a b d : Int) : List Wh := [⟨IntKind.wrap IntKind.i64 (Int.tdiv b (gcdI a b)), ⟨IntKind.wrap IntKind.i64 (a + b), 0, 0, 0, 0, 0, 0, 0⟩⟩, ⟨IntKind.wrap IntKind.i64 (Int.tdiv (IntKind.wrap IntKind.i64 (a + b)) (gcdI a b)), ⟨IntKind.wrap IntKind.i64 (0 - d), 0, 0, 0, 0, 0, 0, 0⟩⟩]
theorem rmI_eq {a b : Int} (h : okMe a b true = true) (d : Int) : rmI a b d = rnW a b true d := by
  obtain ⟨h1, h2⟩ := okM_in h
  have i1 := inR_iff.1 h1
  have i2 := inR_iff.1 h2
  rw [rmI, rnW, gcdFI h1 h2, cond_true, wr_in (x := a - b) (by omega), wr_in (x := 0 - (a - b)) (by omega), wr_in (x := b - a) (by omega), show 0 - (a - b) = b - a by omega]
theorem rmO_eq {a b : Int} (h : okMe a b false = true) (d : Int) : rmO a b d = rnW a b false d := by
  obtain ⟨h1, h2⟩ := okM_in h
  rw [rmO, rnW, gcdFI h1 h2, cond_false]
theorem gcd_nzI {a b : Int} {c : Bool} (h : okMe a b c = true) : (!decide (gcdI a b = 0)) = true := by
  obtain ⟨h1, h2⟩ := okM_in h
  rw [← gcdFI h1 h2, decide_eq_false (gcd_nz h1 h2)]
  rfl
theorem cyIn1 {x : Int} (h : -9223372036854775808 ≤ x ∧ x ≤ 9223372036854775807) : cyIn ⟨x, 0, 0, 0, 0, 0, 0, 0⟩ := fun k hk => by
  rcases (by omega : k = 0 ∨ k = 1 ∨ k = 2 ∨ k = 3 ∨ k = 4 ∨ k = 5 ∨ k = 6 ∨ k = 7) with rfl | rfl | rfl | rfl | rfl | rfl | rfl | rfl
  · exact h
  all_goals
    show -9223372036854775808 ≤ (0 : Int) ∧ (0 : Int) ≤ 9223372036854775807
    omega
theorem rm_in {x y s t : Int} (hx : -9223372036854775808 ≤ x ∧ x ≤ 9223372036854775807) (hy : -9223372036854775808 ≤ y ∧ y ≤ 9223372036854775807) : inWB [⟨s, ⟨x, 0, 0, 0, 0, 0, 0, 0⟩⟩, ⟨t, ⟨y, 0, 0, 0, 0, 0, 0, 0⟩⟩] = true := chk_of fun w hw => by
  rcases List.mem_cons.1 hw with rfl | hw
  · exact cyIn1 hx
  · rcases List.mem_cons.1 hw with rfl | hw
    · exact cyIn1 hy
    · cases hw
def FrgY (rd : Int → Int → Bool → Int → List Wh) (ro : Int → Int → Bool → Int → Bool) : List SA → Option FR
  | [.v (.int .i64 a), .v (.int .i64 b), .v (.bool c), .v (.int .i64 d)] => some { val := valY (rd a b c d), new := newY (rd a b c d), obl := [ro a b c d] }
  | _ => none
def FrgN (ro : Int → Int → Bool → Int → Bool) : List SA → Option FR
  | [.v (.int .i64 a), .v (.int .i64 b), .v (.bool c), .v (.int .i64 d)] => some { val := valN, obl := [!ro a b c d] }
  | _ => none
theorem ok_rgY : SpecOk Tryz.prog 11 (specR [.val, .val, .val, .val] (FrgY rnL rnO)) := by
  refine specR_hr gmRgY_ok Tryz.func11 rfl fun sas fr hF ho => ?_
  unfold FrgY at hF
  split at hF
  · rename_i a b c d
    cases hF
    simp only [ob_cons] at ho
    obtain ⟨h, _⟩ := ho
    refine ⟨[], noLam, 100, .nil, noLam' _, ?_⟩
    show GoodQ (execF Tryz.prog (gmRgY okMe gcdI tidyL okT inWB) noLam 100 Tryz.f11 [.v (i64 a), .v (i64 b), .v (.bool c), .v (i64 d)] [] (packK 0)) _
    rw [treeRgY]
    have h' := h
    rw [rnO, rnP_eq, Bool.and_eq_true, Bool.and_eq_true] at h'
    obtain ⟨⟨h1, h2⟩, h3⟩ := h'
    have i2 := inR_iff.1 h2
    have hL : rnL a b c d = tidyL (rnW a b c d) := (rnL_yes (by rw [rnP_eq, h1, h2]; rfl)).1
    have hz := gcd_nzI h1
    refine good_needs (by rw [ob_cons]; exact ⟨h1, rfl⟩) (good_false (by rw [h2]; rfl) ?_)
    cases c with
    | true =>
      refine good_true rfl ?_
      show GoodQ (needs [!decide (gcdI a b = 0), !decide (gcdI a b = 0), inWB (rmI a b d), okT (rmI a b d)] (.out .ret [valY (tidyL (rmI a b d))] (newY (tidyL (rmI a b d))))) _
      rw [rmI_eq h1 d]
      refine good_needs ?_ (good_out ⟨_, rfl, by rw [hL]; rfl, by rw [hL]; exact Hsim.refl _⟩)
      simp only [ob_cons, ob_nil, and_true]
      refine ⟨hz, hz, ?_, h3⟩
      rw [← rmI_eq h1 d]
      exact rm_in (w64_range _) (by omega)
    | false =>
      refine good_false rfl ?_
      show GoodQ (needs [!decide (gcdI a b = 0), !decide (gcdI a b = 0), inWB (rmO a b d), okT (rmO a b d)] (.out .ret [valY (tidyL (rmO a b d))] (newY (tidyL (rmO a b d))))) _
      rw [rmO_eq h1 d]
      refine good_needs ?_ (good_out ⟨_, rfl, by rw [hL]; rfl, by rw [hL]; exact Hsim.refl _⟩)
      simp only [ob_cons, ob_nil, and_true]
      refine ⟨hz, hz, ?_, h3⟩
      rw [← rmO_eq h1 d]
      exact rm_in (w64_range _) (w64_range _)
  · cases hF
end Go.Proofs.YtddhmidegldhdaaGreatDoor

/- The program's RingDesign, where there is none: its word; both read as one. Conditions: errors.errorType is laid. -/
namespace Go.Proofs.YtddhmidegldhdaaGreatDoor
open Go.RowKit
set_option maxRecDepth 100000

theorem tab_eT {M : Nat → Prop} {w : World} (h : TabOk M w) : w.cell? ⟨0, 0, none⟩ = some eT := by
  obtain ⟨_, l, t, fz, h2, h3⟩ := h (0, aType) (by simp [tabG])
  have h2 : w.heap[0]? = some (.cells (List.toArray l) t fz) := h2
  have h3 : l = [eT] := h3
  subst h3
  simp [World.cell?, h2]
set_option maxHeartbeats 4000000 in
theorem ring_no {a b d : Int} {c : Bool} (w : World) (hg : w.cell? ⟨0, 0, none⟩ = some eT) (h : okMe a b c = false) :
    Calls Tryz.prog 11 #[.int .i64 a, .int .i64 b, .bool c, .int .i64 d] w fun e w' => e = .returned (.tuple #[.slice none 0 0, .bool false]) ∧ Below w.heap.size w w' := by
  have hm := meshes_no w h
  have h0 := below_cell hg
  go_enter Tryz.func11, Tryz.ntmps11
  go_wp2_with fail
  go_at_call 33
  refine hm.mono ?_
  rintro e w1 ⟨v, rfl, hv, hb⟩
  have hf := fits_mis v w1 ((hb.cell h0).trans hg) hv
  clear hv
  go_wp2_with fail
  go_at_call 34
  refine hf.mono ?_
  rintro e w2 ⟨rfl, hb2⟩
  go_wp2_with fail
  go_ret2
  exact ⟨rfl, hb.trans (hb2.mono hb.size)⟩
theorem ok_rgN : SpecOk Tryz.prog 11 (specR [.val, .val, .val, .val] (FrgN rnO)) := by
  refine specR_calls enters Tryz.func11 (by kernel_rfl) fun sas fr hF ho => ?_
  unfold FrgN at hF
  split at hF
  · rename_i a b c d
    cases hF
    simp only [ob_cons] at ho
    obtain ⟨h, _⟩ := ho
    refine ⟨[], .nil, fun M vals w ν hM hv hR hdom => ?_⟩
    cases hok : okMe a b c with
    | true =>
      refine (calls_pack (Λ := noLam) (n := 100) (Q := GivR (abP [.val, .val, .val, .val] [.v (.int .i64 a), .v (.int .i64 b), .v (.bool c), .v (.int .i64 d)] []) { val := valN, obl := [!rnO a b c d] }) gmRgN_ok mixed enters Tryz.func11 (noLam' _) hM ?_ hv hR hdom).mono fun _ _ h => h
      show (execF Tryz.prog (gmRgN okMe gcdI okT inWB) noLam 100 Tryz.f11 [.v (i64 a), .v (i64 b), .v (.bool c), .v (i64 d)] [] (packK 0)).ok _
      refine GoodQ.out ?_
      rw [treeRgN]
      refine good_needs (by rw [ob_cons]; exact ⟨hok, rfl⟩) ?_
      refine good_cond (fun _ => good_out ⟨_, rfl, rfl, .nil⟩) fun h2 => ?_
      have h2 : inR d (-300) 300 = true := by simpa using h2
      have i2 := inR_iff.1 h2
      have hz := gcd_nzI hok
      have h' := h
      rw [rnO, rnP_eq, hok, h2] at h'
      cases c with
      | true =>
        refine good_true rfl ?_
        show GoodQ (needs [!decide (gcdI a b = 0), !decide (gcdI a b = 0), inWB (rmI a b d), !okT (rmI a b d)] (.out .ret [valN] [])) _
        refine good_needs ?_ (good_out ⟨_, rfl, rfl, .nil⟩)
        simp only [ob_cons, ob_nil, and_true]
        refine ⟨hz, hz, rm_in (w64_range _) (by omega), ?_⟩
        rw [rmI_eq hok d]
        simpa using h'
      | false =>
        refine good_false rfl ?_
        show GoodQ (needs [!decide (gcdI a b = 0), !decide (gcdI a b = 0), inWB (rmO a b d), !okT (rmO a b d)] (.out .ret [valN] [])) _
        refine good_needs ?_ (good_out ⟨_, rfl, rfl, .nil⟩)
        simp only [ob_cons, ob_nil, and_true]
        refine ⟨hz, hz, rm_in (w64_range _) (w64_range _), ?_⟩
        rw [rmO_eq hok d]
        simpa using h'
    | false =>
      match vals, hv with
      | [v1, v2, v3, v4], hv =>
        simp only [avC, shA, VRs, VR, and_true] at hv
        obtain ⟨rfl, rfl, rfl, rfl⟩ := hv
        refine (ring_no w (tab_eT hR.tab) hok).mono ?_
        rintro e w' ⟨rfl, hb⟩
        have hfr : Fr (fun k => w.heap.size ≤ k) w w' := ⟨hb.os, hb.tape, hb.output, hb.size, fun k hk _ => hb.block k hk⟩
        refine ⟨_, valN, _, ν, rfl, ⟨_, rfl, rfl, .nil⟩, ?_, ?_, hfr.mono fun k _ hk => hM k hk, Le.refl _, hdom⟩
        · simp only [VR]
          exact ⟨[_, _], rfl, by simp only [VRs, VR, and_true]⟩
        · exact ⟨fun i => (hR.br i).of_block fun k hk _ => hfr.block _ (hR.lt i k hk) (by have := hR.lt i k hk; omega), hR.sep, hR.own, fun i b hb => Nat.lt_of_lt_of_le (hR.lt i b hb) hfr.size, hR.tab.fr (hfr.mono fun k _ hk => hM k hk)⟩
  · cases hF
def UrgO (rd : Int → Int → Bool → Int → List Wh) (ro : Int → Int → Bool → Int → Bool) : List SA → Option UR
  | [.v (.int .i64 a), .v (.int .i64 b), .v (.bool c), .v (.int .i64 d)] => some ⟨ro a b c d, rd a b c d, []⟩
  | _ => none
theorem rnL_none {a b d : Int} {c : Bool} (h : rnO a b c d = false) : rnL a b c d = [] := by
  cases hp : rnP a b c d with
  | false => exact (rnL_no hp).1
  | true =>
    rw [(rnL_yes hp).1]
    rw [(rnL_yes hp).2] at h
    exact tidyL_no h
theorem ok_Urg : SpecOk Tryz.prog 11 (specU [.val, .val, .val, .val] (UrgO rnL rnO)) := by
  refine specU_ok rfl ok_rgY ok_rgN fun sas u hu ho => ?_
  unfold UrgO at hu
  split at hu
  · rename_i a b c d
    cases hu
    refine ⟨rfl, ?_⟩
    cases hv : rnO a b c d with
    | true => exact .inl ⟨rfl, [rnO a b c d], rfl, by simp only [ob_cons, ob_nil, and_true]; exact hv⟩
    | false => exact .inr ⟨rfl, rnL_none hv, [!rnO a b c d], rfl, by simp only [ob_cons, ob_nil, and_true]; rw [hv]; rfl⟩
  · cases hu

end Go.Proofs.YtddhmidegldhdaaGreatDoor

/- The desk: in, out, show. Conditions: the rest's length. -/
namespace Go.Proofs.YtddhmidegldhdaaGreatDoor
open Go.RowKit Go.Shelf
set_option maxRecDepth 100000

def ringQ (c : Bool) (_ : List Wh) (r : List UInt8) : Option (List Wh × List UInt8) :=
  bif numsG 3 r && rnO (numAt r 0) (numAt r 1) c (numAt r 2) then some (rnL (numAt r 0) (numAt r 1) c (numAt r 2), [111, 107]) else none
theorem CPost.after {D : Nat} {L : List Wh} {r : Option (List Wh × List UInt8)} {w w1 : World} (f : Fr (nwM w) w w1) {e : Ending} {w' : World} (h : CPost D L r w1 e w') : CPost D L r w e w' :=
  ⟨(f.nwd (D := D)).trans (h.1.mono fun k _ hk => hk.elim (fun x => .inl (Nat.le_trans f.size x)) .inr), h.2⟩
theorem CPost.die {D : Nat} {L : List Wh} {w w1 : World} (hd : Desk D L w) (f : Fr (nwM w) w w1) : CPost D L none w diesE w1 := ⟨f.nwd, rfl, hd.fr f⟩
theorem CPost.say {D : Nat} {L : List Wh} {w w1 : World} {t : List UInt8} (hd : Desk D L w) (hT : isTidy L) (f : Fr (nwM w) w w1) : CPost D L (some (L, t)) w (.returned (.string ⟨t.toArray⟩)) w1 := ⟨f.nwd, rfl, hd.fr f, hT⟩
theorem CPost.some_eq {D : Nat} {L T : List Wh} {t : List UInt8} {w w' : World} {e : Ending} (h : CPost D L (some (T, t)) w e w') : e = .returned (.string ⟨t.toArray⟩) ∧ CPost D L (some (T, t)) w (.returned (.string ⟨t.toArray⟩)) w' := by
  have := h.2.1
  exact ⟨this, h.1, rfl, h.2.2⟩
theorem CPost.none_eq {D : Nat} {L : List Wh} {w w' : World} {e : Ending} (h : CPost D L none w e w') : e = diesE ∧ CPost D L none w diesE w' := ⟨h.2.1, h.1, rfl, h.2.2⟩
noncomputable abbrev fRi : Func := Tryz.f150
noncomputable def kRi : Code := fRi.body.getD .skip
noncomputable def oRi : Array Oper := kOps (ksA (ksB (ksB kRi)))
theorem bRi : fRi.body = some (.seq (ksA kRi) (.seq (ksA (ksB kRi)) (.seq (.region 2 oRi true) (ksB (ksB (ksB kRi)))))) := by kernel_rfl
def gmRi (nG : Int → ByteArray → Bool) (nA : ByteArray → Nat → Int) (rd : Int → Int → Bool → Int → List Wh) (ro : Int → Int → Bool → Int → Bool) : Gam := ext (ext (ext g0 152 (specR [.val, .val] (FnsO nG nA))) 11 (specU [.val, .val, .val, .val] (UrgO rd ro))) 146 specBe
theorem gmRi_ok : GamOk Tryz.prog (gmRi nbG nbA rnL rnO) := ext_ok (ext_ok (ext_ok g0_ok ok_nb) ok_Urg) ok_be
def gmRiY (nG : Int → ByteArray → Bool) (nA : ByteArray → Nat → Int) (rd : Int → Int → Bool → Int → List Wh) (ro : Int → Int → Bool → Int → Bool) : Gam := ext (ext (ext g0 152 (specR [.val, .val] (FnsO nG nA))) 11 (specR [.val, .val, .val, .val] (FrgY rd ro))) 146 specBe
theorem gmRiY_ok : GamOk Tryz.prog (gmRiY nbG nbA rnL rnO) := ext_ok (ext_ok (ext_ok g0_ok ok_nb) ok_rgY) ok_be
theorem trRi (nG : Int → ByteArray → Bool) (nA : ByteArray → Nat → Int) (rd : Int → Int → Bool → Int → List Wh) (ro : Int → Int → Bool → Int → Bool) (s : ByteArray) (c : Bool) (n c2 : Nat) (f : Nat → Nat → Int) : execF Tryz.prog (gmRiY nG nA rd ro) noLam 100 fRi [.ptr 0 1 0 0, .v (.string s), .v (.bool c)] (hpDf n c2 f) (packK 2)
    = needs [nG (3 : Int) s, Nat.blt (ByteArray.size s) (4294967281 : Nat), ro (nA s (0 : Nat)) (nA s (1 : Nat)) c (nA s (2 : Nat))] (Res.out .ret [AV.v (.string okB2)] [AB.cells [AV.sl 2 (9 : Nat) (0 : Nat) (0 : Nat) (List.length (rd (nA s (0 : Nat)) (nA s (1 : Nat)) c (nA s (2 : Nat)))) (some (List.length (rd (nA s (0 : Nat)) (nA s (1 : Nat)) c (nA s (2 : Nat)))))] 67, AB.row false n 9 (row9 f) 60, AB.row true (List.length (rd (nA s (0 : Nat)) (nA s (1 : Nat)) c (nA s (2 : Nat)))) (9 : Nat) (row9 (wfun (rd (nA s (0 : Nat)) (nA s (1 : Nat)) c (nA s (2 : Nat))))) 60]) := by kernel_rfl

abbrev emS : AV := .v (.string ⟨#[]⟩)
def tRi0 (s : ByteArray) (c : Bool) : List AV := (([.ptr 0 1 0 0, .v (.string s), .v (.bool c)] : List AV) ++ List.replicate 22 (AV.v undef)).set 6 emS
def tRi1 (s : ByteArray) (c : Bool) : List AV := (((tRi0 s c).set 7 (.own 2 3)).set 8 (.v (.string s))).set 9 (.own 2 3)
def hRi (nA : ByteArray → Nat → Int) (s : ByteArray) (n c2 : Nat) (f : Nat → Nat → Int) : List AB := hpDf n c2 f ++ [.row true 3 1 (fun j => [.int .i64 (nA s j)]) 3]
theorem trRi0 (nG : Int → ByteArray → Bool) (nA : ByteArray → Nat → Int) (rd : Int → Int → Bool → Int → List Wh) (ro : Int → Int → Bool → Int → Bool) (s : ByteArray) (c : Bool) (n c2 : Nat) (f : Nat → Nat → Int) : execC Tryz.prog (gmRi nG nA rd ro) 100 noLam (ksA kRi) ([.ptr 0 1 0 0, .v (.string s), .v (.bool c)] ++ List.replicate 22 (.v undef)) (hpDf n c2 f) leadK
    = Res.out .normal [AV.ptr (0 : Nat) (1 : Nat) (0 : Nat) (0 : Nat), AV.v (.string s), AV.v (.bool c), AV.v undef, AV.v undef, AV.v undef, AV.v (.string (ByteArray.mk (Array.mk []))), AV.v undef, AV.v undef, AV.v undef, AV.v undef, AV.v undef, AV.v undef, AV.v undef, AV.v undef, AV.v undef, AV.v undef, AV.v undef, AV.v undef, AV.v undef, AV.v undef, AV.v undef, AV.v undef, AV.v undef, AV.v undef] (hpDf n c2 f) := by kernel_rfl

theorem trRi1 (nG : Int → ByteArray → Bool) (nA : ByteArray → Nat → Int) (rd : Int → Int → Bool → Int → List Wh) (ro : Int → Int → Bool → Int → Bool) (s : ByteArray) (c : Bool) (n c2 : Nat) (f : Nat → Nat → Int) : execC Tryz.prog (gmRi nG nA rd ro) 100 noLam (ksA (ksB kRi)) (tRi0 s c) (hpDf n c2 f) leadK
    = needs [nG (3 : Int) s, Nat.blt (ByteArray.size s) (4294967281 : Nat)] (Res.out .normal [AV.ptr (0 : Nat) (1 : Nat) (0 : Nat) (0 : Nat), AV.v (.string s), AV.v (.bool c), AV.v undef, AV.v undef, AV.v undef, emS, AV.own 2 (3 : Nat), AV.v (.string s), AV.own 2 (3 : Nat), AV.v undef, AV.v undef, AV.v undef, AV.v undef, AV.v undef, AV.v undef, AV.v undef, AV.v undef, AV.v undef, AV.v undef, AV.v undef, AV.v undef, AV.v undef, AV.v undef, AV.v undef] [AB.cells [AV.sl 1 (9 : Nat) (0 : Nat) (0 : Nat) n (some c2)] 67, AB.row false n 9 (row9 f) 60, AB.row true (3 : Nat) (1 : Nat) (fun j ↦ [Value.int .i64 (nA s j)]) 3]) := by kernel_rfl

theorem trRi2 (nG : Int → ByteArray → Bool) (nA : ByteArray → Nat → Int) (rd : Int → Int → Bool → Int → List Wh) (ro : Int → Int → Bool → Int → Bool) (s : ByteArray) (c : Bool) (n c2 : Nat) (f : Nat → Nat → Int) : (execOps Tryz.prog (gmRi nG nA rd ro) oRi.toList (oRi.toList.take 14) (tRi1 s c) (hRi nA s n c2 f) [] fun T' H' tr => cond (drawOk oRi.toList tr.reverse && dieOk 14 oRi.toList) (.out .normal T' H') .err)
    = Res.out .normal [AV.ptr (0 : Nat) (1 : Nat) (0 : Nat) (0 : Nat), AV.v (.string s), AV.v (.bool c), AV.v undef, AV.v undef, AV.v undef, emS, AV.own 2 (3 : Nat), AV.v (.string s), AV.own 2 (3 : Nat), AV.ptr (0 : Nat) (1 : Nat) (0 : Nat) (0 : Nat), AV.own 2 (3 : Nat), AV.ptr (2 : Nat) (1 : Nat) (0 : Nat) (0 : Nat), AV.v (.int .i64 (nA s (0 : Nat))), AV.own 2 (3 : Nat), AV.ptr (2 : Nat) (1 : Nat) (1 : Nat) (0 : Nat), AV.v (.int .i64 (nA s (1 : Nat))), AV.v (.bool c), AV.own 2 (3 : Nat), AV.ptr (2 : Nat) (1 : Nat) (2 : Nat) (0 : Nat), AV.v (.int .i64 (nA s (2 : Nat))), AV.tup [AV.sl 3 (9 : Nat) (0 : Nat) (0 : Nat) (List.length (rd (nA s (0 : Nat)) (nA s (1 : Nat)) c (nA s (2 : Nat)))) (some (List.length (rd (nA s (0 : Nat)) (nA s (1 : Nat)) c (nA s (2 : Nat))))), AV.v (.bool (ro (nA s (0 : Nat)) (nA s (1 : Nat)) c (nA s (2 : Nat))))], AV.sl 3 (9 : Nat) (0 : Nat) (0 : Nat) (List.length (rd (nA s (0 : Nat)) (nA s (1 : Nat)) c (nA s (2 : Nat)))) (some (List.length (rd (nA s (0 : Nat)) (nA s (1 : Nat)) c (nA s (2 : Nat))))), AV.v (.bool (ro (nA s (0 : Nat)) (nA s (1 : Nat)) c (nA s (2 : Nat)))), AV.v undef] [AB.cells [AV.sl 1 (9 : Nat) (0 : Nat) (0 : Nat) n (some c2)] 67, AB.row false n 9 (row9 f) 60, AB.row true (3 : Nat) (1 : Nat) (fun j ↦ [Value.int .i64 (nA s j)]) 3, AB.row false (List.length (rd (nA s (0 : Nat)) (nA s (1 : Nat)) c (nA s (2 : Nat)))) (9 : Nat) (row9 (wfun (rd (nA s (0 : Nat)) (nA s (1 : Nat)) c (nA s (2 : Nat))))) 60] := by kernel_rfl

theorem kRi14 : oRi.toList[14]? = some (oRi.toList.getD 14 default) := by kernel_rfl
noncomputable def tsO (o : Oper) : Array TypeId := match o.op with | .call c => c.argTypes | _ => #[]
theorem kRi14o : (oRi.toList.getD 14 default).guard = none ∧ (oRi.toList.getD 14 default).op = .call ⟨.value (.func 146), #[.tmp 10, .tmp 22, .tmp 23], tsO (oRi.toList.getD 14 default)⟩ := ⟨by kernel_rfl, by kernel_rfl⟩
theorem ob2 {a b : Bool} (ha : a = true) (hb : b = true) : obls [a, b] = true := by subst ha hb; rfl
theorem ob3 {a b c : Bool} (ha : a = true) (hb : b = true) (hc : c = true) : obls [a, b, c] = true := by subst ha hb hc; rfl
theorem nb3 {s : ByteArray} (h : numsG 3 s.data.toList = true) : nbG 3 s = true := h
theorem calls_ring {D : Nat} {L : List Wh} (c : Bool) (s : ByteArray) {w : World} (hd : Desk D L w) (ht : TabOk (nwD w D) w) (hs : s.size < 4294967281) (hT : ∀ a b d, rnO a b c d = true → isTidy (rnL a b c d)) :
    Calls Tryz.prog 150 #[.pointer (some ⟨D, 0, none⟩), .string s, .bool c] w (CPost D L (ringQ c L s.data.toList) w) := by
  unfold ringQ
  have hsz : Nat.blt s.size 4294967281 = true := by rw [Nat.blt_eq]; exact hs
  cases hn : numsG 3 s.data.toList with
  | false =>
    have hnu := calls_nums s 3 (Nat.le_refl _) w ht.nw hs
    rw [hn] at hnu
    clear hs hT hn hsz
    have mixed := mixed
    go_enter Tryz.func150, Tryz.ntmps150
    go_wp2_with (go_at_call 152; refine hnu.mono ?_; rintro e w1 ⟨he, h2⟩; obtain rfl := he)
    exact ⟨rfl, CPost.die hd h2⟩
  | true =>
    rw [Bool.true_and]
    cases hq : rnO (numAt s.data.toList 0) (numAt s.data.toList 1) c (numAt s.data.toList 2) with
    | true =>
      refine desk_run (vs := [.string s, .bool c]) (T := rnL (numAt s.data.toList 0) (numAt s.data.toList 1) c (numAt s.data.toList 2)) (t := [111, 107]) gmRiY_ok Tryz.func150 hd ht (fun c2 => ?_) (hT _ _ _ hq)
      show (execF Tryz.prog (gmRiY nbG nbA rnL rnO) noLam 100 fRi [.ptr 0 1 0 0, .v (.string s), .v (.bool c)] (hpDf L.length c2 (wfun L)) (packK 2)).ok _
      rw [trRi]
      refine (good_needs (ob3 (nb3 hn) hsz hq) ⟨?_⟩).out
      exact ⟨rfl, 2, _, rfl, rfl⟩
    | false =>
      obtain ⟨c2, ν, ho, hdom, hR⟩ := desk_rh hd ht
      have h0 := ho.1
      refine fun_dies2 (vals := [.pointer (some ⟨D, 0, none⟩), .string s, .bool c]) (avs := [.ptr 0 1 0 0, .v (.string s), .v (.bool c)]) (Ta := tRi0 s c) (T := tRi1 s c) (Ha := hpDf L.length c2 (wfun L)) (H1 := hRi nbA s L.length c2 (wfun L)) gmRi_ok Tryz.func150 bRi (fun k hk => .inl hk) ⟨?_, rfl, rfl, trivial⟩ hR hdom ?_ ?_ ⟨14, fun _ T' H' => evA T' (.tmp 10) = .ptr 0 1 0 0 ∧ evA T' (.tmp 23) = .v (.bool false) ∧ H'.getD 0 .gone = .cells [.sl 1 9 0 0 L.length (some c2)] 67 ∧ H'.getD 1 .gone = .row false L.length 9 (row9 (wfun L)) 60, _, 146, #[.tmp 10, .tmp 22, .tmp 23], _, ?_, kRi14, kRi14o.1, kRi14o.2, fun args w => enters _ _ Tryz.func146 rfl args w, by kernel_rfl, ?_⟩
      · simp only [VR]
        exact ⟨_, h0, rfl⟩
      · show (execC Tryz.prog (gmRi nbG nbA rnL rnO) 100 noLam (ksA kRi) ([.ptr 0 1 0 0, .v (.string s), .v (.bool c)] ++ List.replicate 22 (.v undef)) (hpDf L.length c2 (wfun L)) leadK).ok _
        rw [trRi0]
        exact ⟨rfl, rfl, rfl⟩
      · rw [trRi1]
        refine (good_needs (ob2 (nb3 hn) hsz) ⟨?_⟩).out
        exact ⟨rfl, rfl, rfl⟩
      · rw [trRi2]
        refine ⟨rfl, ?_, rfl, rfl⟩
        show AV.v (.bool _) = _
        exact congrArg (fun q => AV.v (.bool q)) hq
      · rintro T' H' ⟨e1, e2, e3, e4⟩ w' ν' vals hv hl hf _
        match vals, hv with
        | [x, y, z], hv =>
          simp only [Array.toList, List.map_cons, List.map_nil, VRs, and_true] at hv
          obtain ⟨hx, _, hz⟩ := hv
          rw [e1] at hx
          rw [e2] at hz
          have hl := hl (by kernel_rfl)
          simp only [VR] at hx hz
          obtain ⟨b, hb, rfl⟩ := hx
          subst hz
          rw [hl.2 _ _ h0] at hb
          cases hb
          exact late_dies ho rfl e3 e4 hl hf y

end Go.Proofs.YtddhmidegldhdaaGreatDoor

/- Plain: the point and the fold of two wheels. No program, no conditions. -/
namespace Go.Proofs.YtddhmidegldhdaaGreatDoor
open Go.RowKit
set_option maxRecDepth 100000

abbrev rl (x : Int) : Cy := ⟨x, 0, 0, 0, 0, 0, 0, 0⟩
theorem rl_f {x : Int} : ∀ k, k < 8 → (rl x).f k = if k = 0 then x else 0 := forall8 rfl rfl rfl rfl rfl rfl rfl rfl
theorem rl_bdd {x : Int} (h : -1000 ≤ x ∧ x ≤ 1000) : bd8 2000000000000 (rl x).f := fun k hk => by
  rw [rl_f k hk]
  split <;> omega
end Go.Proofs.YtddhmidegldhdaaGreatDoor
